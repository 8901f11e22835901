/- Contracts: ranges of integers, numbers if they are finite, and walks. -/
import Derived.Test.YtaplnfdlcihhpaaK3
import Derived.Test.YtaplnfdlcihhpaaFx
namespace Go.Proofs.Ytaplnfdlcihhpaa
set_option maxRecDepth 100000
set_option maxHeartbeats 4000000
open Go.RowKit
attribute [local go_sem] run_store_float run_store_complex alloc_drewN setCell_drewN

/-- From low to high. -/
def inB (n low high : Int) : Bool := decide (low ≤ n) && decide (n ≤ high)
theorem inB_iff (n low high : Int) : inB n low high = true ↔ low ≤ n ∧ n ≤ high := by simp [inB]


theorem s_l00In (n low high : Int) (w : World) : Calls Try.prog 60 #[.int .i64 n, .int .i64 low, .int .i64 high] w fun e w' => e = .returned (.bool (inB n low high)) ∧ Dr w w' := by
  by_cases h : low ≤ n
  all_goals
    go_enter Try.func60, Try.ntmps60
    go_wp2
    go_ret
    exact ⟨ret_bool (by first | (simp [inB, h]; done) | (simp [inB]; omega)), Dr.refl _⟩

theorem i_within (n low high : Int) (w : World) : Calls Try.prog 59 #[.int .i64 n, .int .i64 low, .int .i64 high] w fun e w' => e = .returned (.bool (inB n low high)) ∧ Dr w w' := by
  by_cases h : low ≤ n
  all_goals
    go_enter Try.func59, Try.ntmps59
    go_wp2
    go_ret
    exact ⟨ret_bool (by first | (simp [inB, h]; done) | (simp [inB]; omega)), Dr.refl _⟩
/-- A number and a bool are returned. -/
def NB (e : Ending) (q : Nat × Bool) : Prop := ∃ r b, e = .returned (.tuple #[.float .f32 r, .bool b]) ∧ r < 4294967296 ∧ cn .f32 r = q.1 ∧ b = q.2
/-- A number if it is finite. -/
def numB (c : Nat) : Nat × Bool := (if fin c then c else 0, fin c)
theorem num_pair {r : Nat} (hr : r < 4294967296) : (if fin (cn .f32 r) then r else 0) < 4294967296 ∧ cn .f32 (if fin (cn .f32 r) then r else 0) = if fin (cn .f32 r) then cn .f32 r else 0 := by
  split
  · exact ⟨hr, rfl⟩
  · exact ⟨by omega, cn0⟩


theorem s_l02Number (x : Nat) (hx : x < 4294967296) (w : World) : Calls Try.prog 57 #[.float .f32 x] w fun e w' => NB e (numB (cn .f32 x)) ∧ Dr w w' := by
  cases h : fin (cn .f32 x)
  all_goals
    have H := Lib.hid h
    clear h
    go_enter Try.func57, Try.ntmps57
    go_wp2_with (go_at_call 90; refine (s_l01Finite _ _).mono ?_; rintro e w1 ⟨rfl, n, rfl⟩; rw [H.out])
    go_ret2
  · exact ⟨⟨0, false, rfl, by omega, by simp [numB, H.out, cn0], by simp [numB, H.out]⟩, _, rfl⟩
  · exact ⟨⟨x, true, rfl, hx, by simp [numB, H.out], by simp [numB, H.out]⟩, _, rfl⟩

theorem i_ifFinite (x : Nat) (hx : x < 4294967296) (w : World) : Calls Try.prog 55 #[.float .f32 x] w fun e w' => NB e (numB (cn .f32 x)) ∧ Dr w w' := by
  cases h : fin (cn .f32 x)
  all_goals
    have H := Lib.hid h
    clear h
    go_enter Try.func55, Try.ntmps55
    go_wp2_with (go_at_call 87; refine (i_IsFinite _ _).mono ?_; rintro e w1 ⟨rfl, n, rfl⟩; rw [H.out])
    go_ret2
  · exact ⟨⟨0, false, rfl, by omega, by simp [numB, H.out, cn0], by simp [numB, H.out]⟩, _, rfl⟩
  · exact ⟨⟨x, true, rfl, hx, by simp [numB, H.out], by simp [numB, H.out]⟩, _, rfl⟩

theorem l_sameFloat (x y : Nat) (hxy : cn .f64 x = cn .f64 y) (w : World) : Calls Try.prog 30 #[.float .f64 x, .float .f64 y] w fun e w' => e = .returned (.bool true) ∧ Dr w w' := by
  have HY := Lib.hid hxy.symm
  clear hxy
  have H0 := Lib.hid (show cn .f64 0 = 0 by decide +kernel)
  cases hn : (FloatKind.f64.format.read (cn .f64 x)).isNaN
  · have h1 : fc .neq .f64 (cn .f64 x) (cn .f64 x) = false := by rw [fc_neq_self, hn]
    have h2 : fc .eql .f64 (cn .f64 x) (cn .f64 x) = true := by rw [fc_eql_self, hn]; rfl
    have H1 := Lib.hid h1
    have H2 := Lib.hid h2
    clear h1 h2 hn
    go_enter Try.func30, Try.ntmps30
    go_wp2_with (first | (refine wpList_ar .f64 _ _ rfl rfl rfl ?_; intro r n hr hlt; (try rw [HY.out] at hr); have HR := Lib.hid hr; clear hr) | (refine wpList_fc .f64 _ _ rfl rfl rfl ?_; (try rw [HY.out]); first | rw [H1.out] | rw [H2.out] | skip) | (refine wpList_fc_g rfl .f64 _ _ rfl rfl rfl ?_; (try rw [HY.out]); first | rw [H1.out] | rw [H2.out] | skip))
    all_goals
      go_ret
      first
        | exact ⟨rfl, Dr.refl _⟩
        | exact ⟨rfl, Dr.mk _ _⟩
        | (refine ⟨ret_bool ?_, Dr.mk _ _⟩; rename_i r1 n1 hl1 HR1 r n hlt; rw [Hid.out HR1, Hid.out ‹Hid (cn .f64 r = _)›]; simp; done)
        | (refine ⟨ret_bool ?_, Dr.mk _ _⟩; rename_i r1 n1 hl1 HR1; rw [Hid.out HR1, Hid.out HR]; simp; done)
  · have h1 : fc .neq .f64 (cn .f64 x) (cn .f64 x) = true := by rw [fc_neq_self, hn]
    have H1 := Lib.hid h1
    clear h1 hn
    go_enter Try.func30, Try.ntmps30
    go_wp2_with (first | (refine wpList_fc .f64 _ _ rfl rfl rfl ?_; (try rw [HY.out]); rw [H1.out]) | (refine wpList_fc_g rfl .f64 _ _ rfl rfl rfl ?_; (try rw [HY.out]); rw [H1.out]))
    go_ret
    exact ⟨rfl, Dr.refl _⟩


/-- A walk's chances and its bar. -/
def walkOk (cu cd : Nat) (bar : Int) : Bool := above cu && least cd && fc .leq .f32 (addF cu cd) 1065353216 && inB bar 1 16
theorem s_l07Walk (x y : Nat) (bar : Int) (w : World) : Calls Try.prog 56 #[.float .f32 x, .float .f32 y, .int .i64 bar] w fun e w' => e = .returned (.bool (walkOk (cn .f32 x) (cn .f32 y) bar)) ∧ Dr w w' := by
  go_enter Try.func56, Try.ntmps56
  go_wp2_with (first | (go_at_call 102; refine (s_l02Above _ _).mono ?_; rintro e w1 ⟨rfl, n, rfl⟩) | (go_at_call 91; refine (s_l02Least _ _).mono ?_; rintro e w1 ⟨rfl, n, rfl⟩) | (go_at_call 60; refine (s_l00In _ _ _ _).mono ?_; rintro e w1 ⟨rfl, n, rfl⟩) | (refine wpList_ar .f32 _ _ rfl rfl rfl ?_; intro r n hr hlt; have HR := Lib.hid hr; clear hr) | (refine wpList_ar_g rfl .f32 _ _ rfl rfl rfl ?_; intro r n hr hlt; have HR := Lib.hid hr; clear hr) | (refine wpList_fc_g rfl .f32 _ _ rfl rfl rfl ?_; rw [cn1, HR.out]))
  all_goals
    go_ret
    refine ⟨ret_bool ?_, by first | exact Dr.refl _ | exact Dr.mk _ _⟩
    simp [walkOk, addF, *]

theorem i_isWalk (x y : Nat) (bar : Int) (w : World) : Calls Try.prog 54 #[.float .f32 x, .float .f32 y, .int .i64 bar] w fun e w' => e = .returned (.bool (walkOk (cn .f32 x) (cn .f32 y) bar)) ∧ Below w.heap.size w w' := by
  go_enter Try.func54, Try.ntmps54
  go_wp2_with (first
    | (go_at_call 101; refine (i_areMore _ ([x].map (cn .f32)) _ (by first | exact SL.lit _ [x] _ _ (by simp) rfl (by simp) | exact SL.drewN (SL.lit _ [x] _ _ (by simp) rfl (by simp)) _)).mono ?_; rintro z w1 ⟨rfl, n3, rfl⟩)
    | (go_at_call 85; refine (i_areNotLess _ ([y].map (cn .f32)) _ (by first | exact SL.lit _ [y] _ _ (by simp) rfl (by simp) | exact SL.drewN (SL.lit _ [y] _ _ (by simp) rfl (by simp)) _)).mono ?_; rintro z w1 ⟨rfl, n3, rfl⟩)
    | (go_at_call 59; refine (i_within _ _ _ _).mono ?_; rintro e w1 ⟨rfl, n, rfl⟩) | (refine wpList_ar .f32 _ _ rfl rfl rfl ?_; intro r n hr hlt; have HR := Lib.hid hr; clear hr) | (refine wpList_ar_g rfl .f32 _ _ rfl rfl rfl ?_; intro r n hr hlt; have HR := Lib.hid hr; clear hr) | (refine wpList_fc_g rfl .f32 _ _ rfl rfl rfl ?_; rw [cn1, HR.out]))
  all_goals
    go_ret
    refine ⟨ret_bool ?_, ?_⟩
  all_goals first | ((repeat (first | exact Below.refl _ _ | assumption | refine below_drewN ?_ _ | refine Below.drew ?_ | refine Below.alloc ?_ (by first | omega | (simp; omega) | (simp; done) | (simp at *; omega)) _ | refine Below.setCell ?_ (by first | omega | (simp; omega) | (simp; done) | (simp at *; omega)) _ | refine Below.trans ?_ (Below.mono (by assumption) (by first | omega | (simp; omega) | (simp; done) | (simp at *; omega))))); done) | (simp [walkOk, allAbove, allLeast, addF, *]; done) | (simp_all [walkOk, allAbove, allLeast, addF]; done) | trace_state


def one : Nat := 1065353216
def iterN {α : Type} (f : α → α) : Nat → α → α
  | 0, a => a
  | n + 1, a => f (iterN f n a)
def rlStep (cu cd : Nat) (p : Nat × Nat) : Nat × Nat := (divF (addF one (mulF cd p.1)) cu, addF p.2 (divF (addF one (mulF cd p.1)) cu))
def rlAt (cu cd n : Nat) : Nat × Nat := iterN (rlStep cu cd) n (divF one cu, divF one cu)
/-- How many steps a walk takes. -/
def rlong (cu cd : Nat) (bar : Int) : Nat × Bool :=
  if walkOk cu cd bar then numB (rlAt cu cd (bar - 1).toNat).2 else (0, false)
theorem rlong_no {cu cd : Nat} {bar : Int} (h : walkOk cu cd bar = false) : rlong cu cd bar = (0, false) := by rw [rlong, h]; rfl
theorem rlong_yes {cu cd n : Nat} (h : walkOk cu cd ((n : Int) + 1) = true) : rlong cu cd ((n : Int) + 1) = numB (rlAt cu cd n).2 := by
  rw [rlong, h, if_pos rfl, show ((n : Int) + 1 - 1).toNat = n by omega]
theorem rlAt_succ (cu cd n : Nat) : rlAt cu cd (n + 1) = rlStep cu cd (rlAt cu cd n) := rfl
theorem walk_bar {cu cd : Nat} {bar : Int} (h : walkOk cu cd bar = true) : ∃ n : Nat, bar = (n : Int) + 1 ∧ n ≤ 15 := by
  simp only [walkOk, inB, Bool.and_eq_true, decide_eq_true_eq] at h
  exact ⟨(bar - 1).toNat, by omega, by omega⟩
theorem walk_first {cu cd : Nat} {bar : Int} (h : walkOk cu cd bar = true) : addF 0 (divF one cu) = divF one cu := by
  simp only [walkOk, above, Bool.and_eq_true] at h
  obtain ⟨h1, h2, h3⟩ := gtr_zero h.1.1.1.2
  obtain ⟨h4, h5⟩ := divF_pos (c := one) (d := cu) (by decide +kernel) h1 (by decide +kernel) h2 (by decide +kernel) h3
  exact addF_zero _ (by omega) h5 (by omega)
theorem s_RunLong (x y : Nat) (bar : Int) (w : World) : Calls Try.prog 14 #[.float .f32 x, .float .f32 y, .int .i64 bar] w fun e w' => NB e (rlong (cn .f32 x) (cn .f32 y) bar) ∧ Dr w w' := by
  cases hok : walkOk (cn .f32 x) (cn .f32 y) bar
  · have HK := Lib.hid hok
    clear hok
    go_enter Try.func14, Try.ntmps14
    go_wp2_with (go_at_call 56; refine (s_l07Walk _ _ _ _).mono ?_; rintro e w1 ⟨rfl, n1, rfl⟩; rw [HK.out])
    go_ret2
    exact ⟨⟨0, false, rfl, by omega, by rw [rlong_no HK.out]; exact cn0, by rw [rlong_no HK.out]⟩, Dr.mk _ _⟩
  · obtain ⟨n, rfl, hn⟩ := walk_bar hok
    have HK := Lib.hid hok
    have HF := Lib.hid (walk_first hok)
    clear hok
    go_enter Try.func14, Try.ntmps14
    go_wp2_with (first | (go_at_call 56; refine (s_l07Walk _ _ _ _).mono ?_; rintro e w1 ⟨rfl, n1, rfl⟩; rw [HK.out]) | (refine wpList_ar .f32 _ _ rfl rfl rfl ?_; intro r0 n0 hr0 hlt0))
    go_loopw [8, 9, 10] (fun a s i wr => ∃ k : Nat, k ≤ n ∧ i = .int .i64 ((k : Int) + 1) ∧ (∃ p q, a = .float .f32 p ∧ s = .float .f32 q ∧ p < 4294967296 ∧ q < 4294967296 ∧ Hid (cn .f32 p = (rlAt (cn .f32 x) (cn .f32 y) k).1) ∧ Hid (cn .f32 q = (rlAt (cn .f32 x) (cn .f32 y) k).2)) ∧ ∃ d, wr = World.drewN w d) (fun _ _ i _ => n + 1 - (intOf i).toNat)
    case atStart =>
      refine ⟨0, Nat.zero_le _, rfl, ⟨_, _, rfl, rfl, by assumption, by assumption, ?_, ?_⟩, _, rfl⟩
      · show _ = divF one (cn .f32 x)
        simp only [divF, one, *, cn1]
      · show _ = divF one (cn .f32 x)
        have hF := HF.out; simp only [divF, addF, one] at hF; simp only [*, cn1, cn0]; first | exact hF | rfl
    case round =>
      obtain ⟨k, hk, rfl, ⟨p, q, rfl, rfl, hp, hq, HP, HQ⟩, d, rfl⟩ := hrel
      by_cases hlt : k < n
      · go_wp2_with (refine wpList_ar .f32 _ _ rfl rfl rfl ?_; intro r0 n0 hr0 hlt0)
        have hP := HP.out
        have hQ := HQ.out
        refine ⟨⟨k + 1, by omega, by go_num, ⟨_, _, rfl, rfl, by assumption, by assumption, ?_, ?_⟩, _, rfl⟩, by simp [intOf]; omega⟩
        · show _ = (rlStep _ _ (rlAt _ _ k)).1
          simp only [rlStep, addF, mulF, divF, one, *, cn1]
        · show _ = (rlStep _ _ (rlAt _ _ k)).2
          simp only [rlStep, addF, mulF, divF, one, *, cn1]
      · go_wp2_with (go_at_call 57; refine (s_l02Number _ hq _).mono ?_; rintro e w2 ⟨⟨r, b, rfl, hr1, hr2, hr3⟩, n1, rfl⟩; have HR2 := Lib.hid hr2; have HR3 := Lib.hid hr3; clear hr2 hr3)
        go_ret2
        obtain rfl : k = n := by omega
        refine ⟨⟨r, b, rfl, hr1, ?_, ?_⟩, Dr.mk _ _⟩
        · rw [HR2.out, rlong_yes HK.out, HQ.out]
        · rw [HR3.out, rlong_yes HK.out, HQ.out]
theorem i_RunLong (x y : Nat) (bar : Int) (w : World) : Calls Try.prog 13 #[.float .f32 x, .float .f32 y, .int .i64 bar] w fun e w' => NB e (rlong (cn .f32 x) (cn .f32 y) bar) ∧ Below w.heap.size w w' := by
  cases hok : walkOk (cn .f32 x) (cn .f32 y) bar
  · have HK := Lib.hid hok
    clear hok
    go_enter Try.func13, Try.ntmps13
    go_wp2_with (go_at_call 54; refine (i_isWalk _ _ _ _).mono ?_; rintro e w1 ⟨rfl, hb1⟩; rw [HK.out])
    go_ret2
    exact ⟨⟨0, false, rfl, by omega, by rw [rlong_no HK.out]; exact cn0, by rw [rlong_no HK.out]⟩, hb1⟩
  · obtain ⟨n, rfl, hn⟩ := walk_bar hok
    have HK := Lib.hid hok
    have HF := Lib.hid (walk_first hok)
    clear hok
    go_enter Try.func13, Try.ntmps13
    go_wp2_with (first | (go_at_call 54; refine (i_isWalk _ _ _ _).mono ?_; rintro e w1 ⟨rfl, hb1⟩; rw [HK.out]) | (refine wpList_ar .f32 _ _ rfl rfl rfl ?_; intro r0 n0 hr0 hlt0))
    go_loopw [8, 9, 20] (fun a s i wr => ∃ k : Nat, k ≤ n ∧ i = .int .i64 (k : Int) ∧ (∃ p q, a = .float .f32 p ∧ s = .float .f32 q ∧ p < 4294967296 ∧ q < 4294967296 ∧ Hid (cn .f32 p = (rlAt (cn .f32 x) (cn .f32 y) k).1) ∧ Hid (cn .f32 q = (rlAt (cn .f32 x) (cn .f32 y) k).2)) ∧ ∃ d, wr = World.drewN w1 d) (fun _ _ i _ => n - (intOf i).toNat)
    case atStart =>
      refine ⟨0, Nat.zero_le _, rfl, ⟨_, _, rfl, rfl, by assumption, by assumption, ?_, ?_⟩, _, rfl⟩
      · show _ = divF one (cn .f32 x)
        simp only [divF, one, *, cn1]
      · show _ = divF one (cn .f32 x)
        simp only [divF, one, *, cn1]
    case round =>
      obtain ⟨k, hk, rfl, ⟨p, q, rfl, rfl, hp, hq, HP, HQ⟩, d, rfl⟩ := hrel
      by_cases hlt : k < n
      · go_wp2_with (refine wpList_ar .f32 _ _ rfl rfl rfl ?_; intro r0 n0 hr0 hlt0)
        have hP := HP.out
        have hQ := HQ.out
        refine ⟨⟨k + 1, by omega, by go_num, ⟨_, _, rfl, rfl, by assumption, by assumption, ?_, ?_⟩, _, rfl⟩, by simp [intOf]; omega⟩
        · show _ = (rlStep _ _ (rlAt _ _ k)).1
          simp only [rlStep, addF, mulF, divF, one, *, cn1]
        · show _ = (rlStep _ _ (rlAt _ _ k)).2
          simp only [rlStep, addF, mulF, divF, one, *, cn1]
      · go_wp2_with (go_at_call 55; refine (i_ifFinite _ hq _).mono ?_; rintro e w2 ⟨⟨r, b, rfl, hr1, hr2, hr3⟩, n1, rfl⟩; have HR2 := Lib.hid hr2; have HR3 := Lib.hid hr3; clear hr2 hr3)
        go_ret2
        obtain rfl : k = n := by omega
        refine ⟨⟨r, b, rfl, hr1, ?_, ?_⟩, by (repeat (first | exact Below.refl _ _ | assumption | refine below_drewN ?_ _ | refine Below.drew ?_ | refine Below.alloc ?_ (by first | omega | (simp; omega) | (simp; done) | (simp at *; omega)) _ | refine Below.setCell ?_ (by first | omega | (simp; omega) | (simp; done) | (simp at *; omega)) _ | refine Below.trans ?_ (Below.mono (by assumption) (by first | omega | (simp; omega) | (simp; done) | (simp at *; omega)))))⟩
        · rw [HR2.out, rlong_yes HK.out, HQ.out]
        · rw [HR3.out, rlong_yes HK.out, HQ.out]

end Go.Proofs.Ytaplnfdlcihhpaa
