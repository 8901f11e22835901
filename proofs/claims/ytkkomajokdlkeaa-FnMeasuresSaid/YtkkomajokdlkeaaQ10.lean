/- Contracts: series, sums and means. -/
import Derived.Deep.RegionLaw
import Derived.Deep.QuietTactic
import Derived.BigQuiet
import Derived.Test.YtkkomajokdlkeaaQ8
namespace Go.Proofs.Ytkkomajokdlkeaa
set_option linter.unusedSimpArgs false
set_option linter.unusedVariables false
set_option maxRecDepth 100000
set_option maxHeartbeats 4000000
open Go.RowKit
attribute [local go_sem] run_store_float run_store_complex alloc_drewN setCell_drewN

/-- A series: 1 to 96 finite numbers. -/
def series (cs : List Nat) : Bool := decide (1 ≤ cs.length) && decide (cs.length ≤ 96) && allFin cs
def meanL (cs : List Nat) : Nat := divF (sumL cs) (fI cs.length)
theorem SL.slice {w : World} {v : Value} {cs : List Nat} (h : SL w v cs) : ∃ ao c, v = .slice ao cs.length c ∧ cs.length ≤ 9223372036854775807 := by
  obtain ⟨ao, c, xs, rfl, rfl, h3, _⟩ := h
  exact ⟨ao, c, by simp, by simp; omega⟩
theorem allFin_take {cs : List Nat} {k : Nat} (hk : k < cs.length) (h1 : allFin (cs.take k) = true) (h2 : fin cs[k] = true) : allFin (cs.take (k + 1)) = true := by
  unfold allFin at *
  rw [take_snoc cs k hk, List.all_append, h1]; simp [h2]
theorem allFin_no {cs : List Nat} {k : Nat} (hk : k < cs.length) (h2 : fin cs[k] = false) : allFin cs = false := by
  unfold allFin
  rw [List.all_eq_false]
  exact ⟨cs[k], List.getElem_mem hk, by simp [h2]⟩


theorem s_l02Finite (v : Value) (cs : List Nat) (w : World) (hv : SL w v cs) :
    Calls Try.prog 64 #[v] w fun e w' => e = .returned (.bool (allFin cs)) ∧ Dr w w' := by
  obtain ⟨ao, c, xs, rfl, hcs, hlen, hcell⟩ := hv
  have hl : xs.length = cs.length := by rw [← hcs]; simp
  have HL := Lib.hid hl
  have HCS := Lib.hid hcs
  have HC := Lib.hid hcell
  clear hcell hcs hl
  go_enter Try.func64, Try.ntmps64
  go_wp2_with fail
  go_loopw [3] (fun i wr => ∃ k : Nat, k ≤ xs.length ∧ i = .int .i64 k ∧ Hid (allFin (cs.take k) = true) ∧ ∃ d, wr = w.drewN d) (fun i _ => xs.length - (intOf i).toNat)
  case atStart => exact ⟨0, Nat.zero_le _, rfl, by simp [Hid, allFin], 0, rfl⟩
  case round =>
    obtain ⟨k, hk, rfl, H1, d, rfl⟩ := hrel
    by_cases hlt : k < xs.length
    · obtain ⟨b, off, rfl, hb, hc⟩ := HC.out k hlt
      have hlt2 : k < cs.length := by have := HL.out; omega
      have hk2 : cn .f32 xs[k] = cs[k] := by simp [← HCS.out]
      cases hp : fin (cn .f32 xs[k])
      all_goals
        have HP := Lib.hid hp
        have HK := Lib.hid hk2
        clear hp hk2
        go_wp2_with (go_at_call 69; refine (s_l01Finite _ _).mono ?_; rintro e w1 ⟨rfl, n, rfl⟩; rw [HP.out])
      · go_ret
        refine ⟨ret_bool ?_, _, rfl⟩
        rw [allFin_no hlt2 (by rw [← HK.out]; exact HP.out)]
      · refine ⟨⟨k + 1, by omega, by go_num, ?_, _, rfl⟩, by simp [intOf]; omega⟩
        exact allFin_take hlt2 H1.out (by rw [← HK.out]; exact HP.out)
    · go_wp2_with fail
      go_ret
      refine ⟨ret_bool ?_, _, rfl⟩
      have h1 := H1.out
      rw [List.take_of_length_le (by have := HL.out; omega)] at h1
      exact h1.symm


theorem s_l02Series (v : Value) (cs : List Nat) (w : World) (hv : SL w v cs) :
    Calls Try.prog 65 #[v] w fun e w' => e = .returned (.bool (series cs)) ∧ Dr w w' := by
  obtain ⟨ao, c, rfl, hlen⟩ := hv.slice
  by_cases h1 : 1 ≤ cs.length
  all_goals
    by_cases h2 : cs.length ≤ 96
    all_goals
      have a1 : (1 : Int) ≤ (cs.length : Int) ↔ 1 ≤ cs.length := by omega
      go_enter Try.func65, Try.ntmps65
      go_wp2_with (go_at_call 64; refine (s_l02Finite _ cs _ hv).mono ?_; rintro e w1 ⟨rfl, n, rfl⟩)
      all_goals
        go_ret
        refine ⟨ret_bool ?_, by first | exact Dr.refl _ | exact Dr.mk _ _⟩
        simp [series, h1, h2]

theorem i_IsSeries (v : Value) (cs : List Nat) (w : World) (hv : SL w v cs) :
    Calls Try.prog 60 #[v] w fun e w' => e = .returned (.bool (series cs)) ∧ Dr w w' := by
  obtain ⟨ao, c, rfl, hlen⟩ := hv.slice
  by_cases h1 : 1 ≤ cs.length
  all_goals
    by_cases h2 : cs.length ≤ 96
    all_goals
      have a1 : (1 : Int) ≤ (cs.length : Int) ↔ 1 ≤ cs.length := by omega
      go_enter Try.func60, Try.ntmps60
      go_wp2_with (go_at_call 81; refine (i_areFinite _ cs _ hv).mono ?_; rintro e w1 ⟨rfl, n, rfl⟩)
      all_goals
        go_ret
        refine ⟨ret_bool ?_, by first | exact Dr.refl _ | exact Dr.mk _ _⟩
        simp [series, h1, h2]

theorem i_addUp (v : Value) (cs : List Nat) (w : World) (hv : SL w v cs) :
    Calls Try.prog 116 #[v] w fun e w' => (∃ r, e = .returned (.float .f32 r) ∧ r < 4294967296 ∧ cn .f32 r = sumL cs) ∧ ∃ n, w.drewN n = w' := by
  obtain ⟨ao, c, xs, rfl, rfl, hlen, hcell⟩ := hv
  have HC := Lib.hid hcell
  clear hcell
  go_enter Try.func116, Try.ntmps116
  go_wp2_with fail
  go_loopw [3, 8] (fun s i wr => ∃ k : Nat, k ≤ xs.length ∧ i = .int .i64 k ∧ (∃ r, s = .float .f32 r ∧ r < 4294967296 ∧ Hid (cn .f32 r = sumL ((xs.map (cn .f32)).take k))) ∧ ∃ d, wr = w.drewN d) (fun _ i _ => xs.length - (intOf i).toNat)
  case atStart => exact ⟨0, Nat.zero_le _, rfl, ⟨0, rfl, by omega, by rw [List.take_zero]; exact cn0⟩, 0, rfl⟩
  case round =>
    obtain ⟨k, hk, rfl, ⟨r, rfl, hr0, hr⟩, d, rfl⟩ := hrel
    by_cases hlt : k < xs.length
    · obtain ⟨b, off, rfl, hb, hc⟩ := HC.out k hlt
      go_wp2_with (refine wpList_ar .f32 _ _ rfl rfl rfl ?_; intro r1 n1 hr1 hlt1)
      refine ⟨⟨k + 1, by omega, by go_num, ⟨r1, rfl, hlt1, ?_⟩, _, rfl⟩, by simp [intOf]; omega⟩
      show _ = _
      rw [take_map_snoc _ _ _ hlt, sumL_snoc, hr1, hr.out]; rfl
    · go_wp2_with fail
      go_ret
      refine ⟨⟨r, rfl, hr0, ?_⟩, _, rfl⟩
      rw [hr.out, List.take_of_length_le (by simp; omega)]

theorem s_l07Sum (v : Value) (cs : List Nat) (w : World) (hv : SL w v cs) :
    Calls Try.prog 134 #[v] w fun e w' => (∃ r, e = .returned (.float .f32 r) ∧ r < 4294967296 ∧ cn .f32 r = sumL cs) ∧ ∃ n, w.drewN n = w' := by
  obtain ⟨ao, c, xs, rfl, rfl, hlen, hcell⟩ := hv
  have HC := Lib.hid hcell
  clear hcell
  go_enter Try.func134, Try.ntmps134
  go_wp2_with fail
  go_loopw [3, 7] (fun s i wr => ∃ k : Nat, k ≤ xs.length ∧ i = .int .i64 k ∧ (∃ r, s = .float .f32 r ∧ r < 4294967296 ∧ Hid (cn .f32 r = sumL ((xs.map (cn .f32)).take k))) ∧ ∃ d, wr = w.drewN d) (fun _ i _ => xs.length - (intOf i).toNat)
  case atStart => exact ⟨0, Nat.zero_le _, rfl, ⟨0, rfl, by omega, by rw [List.take_zero]; exact cn0⟩, 0, rfl⟩
  case round =>
    obtain ⟨k, hk, rfl, ⟨r, rfl, hr0, hr⟩, d, rfl⟩ := hrel
    by_cases hlt : k < xs.length
    · obtain ⟨b, off, rfl, hb, hc⟩ := HC.out k hlt
      go_wp2_with (refine wpList_ar .f32 _ _ rfl rfl rfl ?_; intro r1 n1 hr1 hlt1)
      refine ⟨⟨k + 1, by omega, by go_num, ⟨r1, rfl, hlt1, ?_⟩, _, rfl⟩, by simp [intOf]; omega⟩
      show _ = _
      rw [take_map_snoc _ _ _ hlt, sumL_snoc, hr1, hr.out]; rfl
    · go_wp2_with fail
      go_ret
      refine ⟨⟨r, rfl, hr0, ?_⟩, _, rfl⟩
      rw [hr.out, List.take_of_length_le (by simp; omega)]

theorem i_mean (v : Value) (cs : List Nat) (w : World) (hv : SL w v cs) :
    Calls Try.prog 75 #[v] w fun e w' => (∃ r, e = .returned (.float .f32 r) ∧ r < 4294967296 ∧ cn .f32 r = meanL cs) ∧ ∃ n, w.drewN n = w' := by
  obtain ⟨ao, c, rfl, hlen⟩ := hv.slice
  go_enter Try.func75, Try.ntmps75
  go_wp2_with (first | (go_at_call 116; refine (i_addUp _ cs _ hv).mono ?_; rintro e w1 ⟨⟨r, rfl, hr, hs⟩, n, rfl⟩; have HS := Lib.hid hs; clear hs) | (refine wpList_ar .f32 _ _ rfl rfl rfl ?_; intro r1 n1 hr1 hlt1; have HR := Lib.hid hr1; clear hr1))
  go_ret
  refine ⟨⟨_, rfl, by assumption, ?_⟩, _, rfl⟩
  rw [HR.out, HS.out]
  show divF _ (cn .f32 (floatOfInt .f32 _)) = _
  rw [show cn .f32 (floatOfInt .f32 (cs.length : Int)) = fI cs.length from cn_fI _]; rfl

theorem i_ifAll (v : Value) (cs : List Nat) (w : World) (hv : SL w v cs) :
    Calls Try.prog 76 #[v] w fun e w' => GV v cs e ∧ Dr w w' := by
  cases hp : allFin cs
  all_goals
    have HP := Lib.hid hp
    clear hp
    go_enter Try.func76, Try.ntmps76
    go_wp2_with (go_at_call 81; refine (i_areFinite _ cs _ hv).mono ?_; rintro e w1 ⟨rfl, n, rfl⟩; rw [HP.out])
    go_ret2
    exact ⟨⟨_, _, rfl, by rw [HP.out]; rfl, HP.out.symm⟩, Dr.mk _ _⟩

theorem i_isForth (n : Int) (w : World) : Calls Try.prog 78 #[.int .i64 n] w fun e w' => e = .returned (.bool (inB n 0 32)) ∧ Dr w w' := by
  go_enter Try.func78, Try.ntmps78
  go_wp2_with (go_at_call 56; refine (i_within _ _ _ _).mono ?_; rintro e w1 ⟨rfl, n, rfl⟩)
  go_ret
  exact ⟨rfl, _, rfl⟩

theorem i_isPeriodOf (v : Value) (cs : List Nat) (p : Int) (w : World) (hv : SL w v cs) :
    Calls Try.prog 74 #[v, .int .i64 p] w fun e w' => e = .returned (.bool (series cs && inB p 1 cs.length)) ∧ Dr w w' := by
  obtain ⟨ao, c, rfl, hlen⟩ := hv.slice
  cases hp : series cs
  all_goals
    have HP := Lib.hid hp
    clear hp
    go_enter Try.func74, Try.ntmps74
    go_wp2_with (first | (go_at_call 60; refine (i_IsSeries _ cs _ hv).mono ?_; rintro e w1 ⟨rfl, n, rfl⟩; rw [HP.out]) | (go_at_call 56; refine (i_within _ _ _ _).mono ?_; rintro e w1 ⟨rfl, n, rfl⟩))
    go_ret
    exact ⟨rfl, _, rfl⟩

end Go.Proofs.Ytkkomajokdlkeaa

namespace Go.Proofs.Ytkkomajokdlkeaa
set_option linter.unusedSimpArgs false
set_option linter.unusedVariables false
set_option maxRecDepth 100000
set_option maxHeartbeats 4000000
open Go.RowKit
attribute [local go_sem] run_store_float run_store_complex alloc_drewN setCell_drewN

/-- The part i of p parts. -/
def partL (cs : List Nat) (p i : Nat) : List Nat := (cs.drop (i * cs.length / p)).take ((i + 1) * cs.length / p - i * cs.length / p)
def pmL (cs : List Nat) (p n : Nat) : List Nat := (List.range n).map fun (i : Nat) => meanL (partL cs p i)
theorem pmL_length (cs : List Nat) (p n : Nat) : (pmL cs p n).length = n := by simp [pmL]
theorem pmL_succ (cs : List Nat) (p n : Nat) : pmL cs p (n + 1) = pmL cs p n ++ [meanL (partL cs p n)] := by simp [pmL, List.range_succ]
def partsQ (cs : List Nat) (p : Int) : List Nat × Bool := if series cs && inB p 1 cs.length then given (pmL cs p.toNat p.toNat) else ([], false)
theorem series_len {cs : List Nat} (h : series cs = true) : 1 ≤ cs.length ∧ cs.length ≤ 96 := by
  simp only [series, Bool.and_eq_true, decide_eq_true_eq] at h
  exact h.1
theorem part_bounds {n p i : Nat} (hi : i < p) (hp : p ≤ n) (hn : n ≤ 96) : i * n / p ≤ (i + 1) * n / p ∧ (i + 1) * n / p ≤ n ∧ i * n ≤ 9216 ∧ (i + 1) * n ≤ 9216 := by
  have h1 : i * n ≤ 96 * 96 := Nat.mul_le_mul (by omega) hn
  have h2 : (i + 1) * n ≤ 96 * 96 := Nat.mul_le_mul (by omega) hn
  have h3 : (i + 1) * n ≤ p * n := Nat.mul_le_mul_right _ (by omega)
  refine ⟨Nat.div_le_div_right (Nat.mul_le_mul_right _ (by omega)), ?_, by omega, by omega⟩
  calc (i + 1) * n / p ≤ p * n / p := Nat.div_le_div_right h3
    _ = n := by rw [Nat.mul_comm]; exact Nat.mul_div_cancel _ (by omega)

theorem mul_le_cast {a b c : Nat} (h : a * b ≤ c) : (a : Int) * (b : Int) ≤ (c : Int) := by
  have h2 : ((a * b : Nat) : Int) ≤ (c : Int) := by omega
  rw [Int.natCast_mul] at h2
  exact h2
theorem mul_le_cast' {a b c : Nat} (h : (a + 1) * b ≤ c) : ((a : Int) + 1) * (b : Int) ≤ (c : Int) := by
  have h1 := mul_le_cast h
  have h2 : ((a + 1 : Nat) : Int) = (a : Int) + 1 := by omega
  rw [h2] at h1
  exact h1

theorem SL.slice2 {w : World} {v : Value} {cs : List Nat} (h : SL w v cs) : ∃ ao c, v = .slice ao cs.length c ∧ cs.length ≤ c ∧ c ≤ 9223372036854775807 := by
  obtain ⟨ao, c, xs, rfl, rfl, h3, _⟩ := h
  exact ⟨ao, c, by simp, by simpa using h3.1, h3.2⟩
theorem wrap_in {n : Int} (h1 : 0 ≤ n) (h2 : n ≤ 1000000) : IntKind.i64.wrap n = n := by rw [IntKind.wrap_i64]; omega
theorem tdiv_cast {a b : Nat} {x : Int} (h : x = (a : Int)) : x.tdiv (b : Int) = ((a / b : Nat) : Int) := by
  subst h
  rw [Int.tdiv_eq_ediv_of_nonneg (by omega)]
  exact (Int.natCast_ediv a b).symm


theorem i_PartMeans (v : Value) (cs : List Nat) (p : Int) (w : World) (hv : SL w v cs) :
    Calls Try.prog 22 #[v, .int .i64 p] w fun z w' => LB 33 w.heap.size w' z (partsQ cs p) ∧ Below w.heap.size w w' := by
  obtain ⟨ao, c, rfl, hcap, hlen⟩ := hv.slice2
  have HV := Lib.hid hv
  clear hv
  cases hok : (series cs && inB p 1 cs.length)
  · have HOK := Lib.hid hok
    clear hok
    go_enter Try.func22, Try.ntmps22
    go_wp2_with (go_at_call 74; refine (i_isPeriodOf _ cs _ _ HV.out).mono ?_; rintro z w1 ⟨rfl, n1, rfl⟩; rw [HOK.out])
    go_ret2
    exact ⟨LB.no _ _ _ (by rw [partsQ, HOK.out]; rfl), by (repeat (first | exact Below.refl _ _ | assumption | refine below_drewN ?_ _ | refine Below.drew ?_ | refine Below.alloc ?_ (by first | omega | (simp; omega) | (simp; done) | (simp at *; omega)) _ | refine Below.setCell ?_ (by first | omega | (simp; omega) | (simp; done) | (simp at *; omega)) _ | refine Below.trans ?_ (Below.mono (by assumption) (by first | omega | (simp; omega) | (simp; done) | (simp at *; omega)))))⟩
  · have hok' := hok
    simp only [Bool.and_eq_true, inB, decide_eq_true_eq] at hok'
    obtain ⟨hs, hp1, hp2⟩ := hok'
    obtain ⟨hl1, hl2⟩ := series_len hs
    obtain ⟨q, rfl⟩ := Int.eq_ofNat_of_zero_le (show 0 ≤ p by omega)
    have hq1 : 1 ≤ q := by omega
    have hq2 : q ≤ cs.length := by omega
    have HOK := Lib.hid hok
    clear hok hs hp1 hp2
    have HQ := Lib.hid (show partsQ cs (q : Int) = given (pmL cs q q) by rw [partsQ, HOK.out]; rfl)
    go_enter Try.func22, Try.ntmps22
    go_wp2_with (go_at_call 74; refine (i_isPeriodOf _ cs _ _ HV.out).mono ?_; rintro z w1 ⟨rfl, n1, rfl⟩; rw [HOK.out])
    go_loopw [7, 17] (fun v i wr => ∃ k : Nat, k ≤ q ∧ i = .int .i64 k ∧ Hid (OW 33 w.heap.size wr v (pmL cs q k)) ∧ Below w.heap.size w wr) (fun _ i _ => q - (intOf i).toNat)
    case atStart => exact ⟨0, Nat.zero_le _, rfl, (by show OW _ _ _ _ _; first | exact OW.drewN (OW.empty _ _ rfl (Nat.le_refl _)) _ | exact OW.empty _ _ rfl (Nat.le_refl _)), by (repeat (first | exact Below.refl _ _ | assumption | refine below_drewN ?_ _ | refine Below.drew ?_ | refine Below.alloc ?_ (by first | omega | (simp; omega) | (simp; done) | (simp at *; omega)) _ | refine Below.setCell ?_ (by first | omega | (simp; omega) | (simp; done) | (simp at *; omega)) _ | refine Below.trans ?_ (Below.mono (by assumption) (by first | omega | (simp; omega) | (simp; done) | (simp at *; omega)))))⟩
    case round =>
      obtain ⟨k, hk, rfl, HO, hb⟩ := hrel
      have hz := hb.size
      by_cases hlt : k < q
      · obtain ⟨g1, g2, g3, g4⟩ := part_bounds hlt hq2 hl2
        have i1 : 0 ≤ (k : Int) * (cs.length : Int) := Int.mul_nonneg (by omega) (by omega)
        have i2 : (k : Int) * (cs.length : Int) ≤ 9216 := mul_le_cast g3
        have i3 : 0 ≤ ((k : Int) + 1) * (cs.length : Int) := Int.mul_nonneg (by omega) (by omega)
        have i4 : ((k : Int) + 1) * (cs.length : Int) ≤ 9216 := mul_le_cast' g4
        have HL := Lib.hid (show (pmL cs q k).length < 1099511627776 by rw [pmL_length]; omega)
        have w1 := wrap_in i1 (by omega)
        have w2 := wrap_in (n := (k : Int) + 1) (by omega) (by omega)
        have w3 := wrap_in i3 (by omega)
        have d1 : ((k : Int) * (cs.length : Int)).tdiv (q : Int) = _ := tdiv_cast (a := k * cs.length) (by rw [Int.natCast_mul])
        have d2 : (((k : Int) + 1) * (cs.length : Int)).tdiv (q : Int) = _ := tdiv_cast (a := (k + 1) * cs.length) (by rw [Int.natCast_mul]; rfl)
        have hq0 : ¬ q = 0 := by omega
        obtain ⟨A, hA⟩ : ∃ A, A = k * cs.length / q := ⟨_, rfl⟩
        obtain ⟨B, hB⟩ : ∃ B, B = (k + 1) * cs.length / q := ⟨_, rfl⟩
        rw [← hA] at d1 g1
        rw [← hB] at d2 g1 g2
        have HP := Lib.hid (show partL cs q k = (cs.drop A).take (B - A) by rw [partL, ← hA, ← hB])
        clear hA hB
        have w4 := wrap_in (n := (A : Int)) (by omega) (by omega)
        have w5 := wrap_in (n := (B : Int)) (by omega) (by omega)
        have j1 : (A : Int) ≤ (B : Int) := by omega
        have j2 : (B : Int) ≤ (c : Int) := by omega
        have HS := Lib.hid (SL.sub (HV.out.keep hb) g1 g2)
        go_wp2_with fail
        go_region_law (first
          | (refine step_app1 f32s w.heap.size u7 _ rfl (by first | exact OW.drewN (OW.alloc HO.out _) _ | exact OW.alloc HO.out _ | exact OW.drewN (OW.alloc (OW.drew HO.out) _) _) _ r rfl (by simp; done) hr1 HL.out (by simp; omega) ?_; intro v' w' ho' hg'; have HO' := Lib.hid ho'; clear ho')
          | (go_simp; go_at_call 75; refine (i_mean _ _ _ (SL.drew HS.out)).mono ?_; rintro z w3 ⟨⟨r, rfl, hr1, hr2⟩, n3, rfl⟩; have HR := Lib.hid hr2; clear hr2))
        go_wp2_with fail
        refine ⟨⟨k + 1, by omega, by go_num, ?_, ?_⟩, by simp [intOf]; omega⟩
        · have h1 := HO'.out
          rw [HR.out, ← HP.out, ← pmL_succ] at h1
          exact h1
        · refine below_of_grown ?_ hg' (by simp; omega) HO.out.own_ge
          (repeat (first | exact Below.refl _ _ | assumption | refine below_drewN ?_ _ | refine Below.drew ?_ | refine Below.alloc ?_ (by first | omega | (simp; omega) | (simp; done) | (simp at *; omega)) _ | refine Below.setCell ?_ (by first | omega | (simp; omega) | (simp; done) | (simp at *; omega)) _ | refine Below.trans ?_ (Below.mono (by assumption) (by first | omega | (simp; omega) | (simp; done) | (simp at *; omega)))))
      · go_wp2_with (go_at_call 76; refine (i_ifAll _ _ _ HO.out.sb.sl).mono ?_; rintro z w3 ⟨⟨u, q', rfl, hu, hq⟩, n3, rfl⟩; have HU := Lib.hid hu; have HQ2 := Lib.hid hq; clear hu hq)
        go_ret2
        obtain rfl : k = q := by omega
        refine ⟨LB.given (OW.drewN HO.out _) HU.out HQ2.out HQ.out, ?_⟩
        (repeat (first | exact Below.refl _ _ | assumption | refine below_drewN ?_ _ | refine Below.drew ?_ | refine Below.alloc ?_ (by first | omega | (simp; omega) | (simp; done) | (simp at *; omega)) _ | refine Below.setCell ?_ (by first | omega | (simp; omega) | (simp; done) | (simp at *; omega)) _ | refine Below.trans ?_ (Below.mono (by assumption) (by first | omega | (simp; omega) | (simp; done) | (simp at *; omega)))))

end Go.Proofs.Ytkkomajokdlkeaa
