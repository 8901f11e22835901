/- Contracts: means of parts. -/
import Derived.Deep.RegionLaw
import Derived.Deep.QuietTactic
import Derived.BigQuiet
import Derived.Test.YtkkomajokdlkeaaQ4
import Derived.Test.YtkkomajokdlkeaaQ5
import Derived.Test.YtkkomajokdlkeaaQ9
namespace Go.Proofs.Ytkkomajokdlkeaa
set_option linter.unusedSimpArgs false
set_option linter.unusedVariables false
set_option maxRecDepth 100000
set_option maxHeartbeats 4000000
open Go.RowKit
attribute [local go_sem] run_store_float run_store_complex alloc_drewN setCell_drewN

/-- The part i of p parts. -/
def partL (cs : List Nat) (p i : Nat) : List Nat := (cs.drop (i * cs.length / p)).take ((i + 1) * cs.length / p - i * cs.length / p)
def pmL (cs : List Nat) (p n : Nat) : List Nat := (List.range n).map fun (i : Nat) => meanL (partL cs p i)
theorem pmL_length (cs : List Nat) (p n : Nat) : (pmL cs p n).length = n := by simp [pmL]
theorem pmL_succ (cs : List Nat) (p n : Nat) : pmL cs p (n + 1) = pmL cs p n ++ [meanL (partL cs p n)] := by simp [pmL, List.range_succ]
def partsQ (cs : List Nat) (p : Int) : List Nat × Bool := if series cs && inB p 1 cs.length then given (pmL cs p.toNat p.toNat) else ([], false)
theorem series_len {cs : List Nat} (h : series cs = true) : 1 ≤ cs.length ∧ cs.length ≤ 96 := by
  simp only [series, Bool.and_eq_true, decide_eq_true_eq] at h
  exact h.1
theorem part_bounds {n p i : Nat} (hi : i < p) (hp : p ≤ n) (hn : n ≤ 96) : i * n / p ≤ (i + 1) * n / p ∧ (i + 1) * n / p ≤ n ∧ i * n ≤ 9216 ∧ (i + 1) * n ≤ 9216 := by
  have h1 : i * n ≤ 96 * 96 := Nat.mul_le_mul (by omega) hn
  have h2 : (i + 1) * n ≤ 96 * 96 := Nat.mul_le_mul (by omega) hn
  have h3 : (i + 1) * n ≤ p * n := Nat.mul_le_mul_right _ (by omega)
  refine ⟨Nat.div_le_div_right (Nat.mul_le_mul_right _ (by omega)), ?_, by omega, by omega⟩
  calc (i + 1) * n / p ≤ p * n / p := Nat.div_le_div_right h3
    _ = n := by rw [Nat.mul_comm]; exact Nat.mul_div_cancel _ (by omega)

theorem mul_le_cast {a b c : Nat} (h : a * b ≤ c) : (a : Int) * (b : Int) ≤ (c : Int) := by
  have h2 : ((a * b : Nat) : Int) ≤ (c : Int) := by omega
  rw [Int.natCast_mul] at h2
  exact h2
theorem mul_le_cast' {a b c : Nat} (h : (a + 1) * b ≤ c) : ((a : Int) + 1) * (b : Int) ≤ (c : Int) := by
  have h1 := mul_le_cast h
  have h2 : ((a + 1 : Nat) : Int) = (a : Int) + 1 := by omega
  rw [h2] at h1
  exact h1

theorem SL.slice2 {w : World} {v : Value} {cs : List Nat} (h : SL w v cs) : ∃ ao c, v = .slice ao cs.length c ∧ cs.length ≤ c ∧ c ≤ 9223372036854775807 := by
  obtain ⟨ao, c, xs, rfl, rfl, h3, _⟩ := h
  exact ⟨ao, c, by simp, by simpa using h3.1, h3.2⟩
theorem wrap_in {n : Int} (h1 : 0 ≤ n) (h2 : n ≤ 1000000) : IntKind.i64.wrap n = n := by rw [IntKind.wrap_i64]; omega
theorem tdiv_cast {a b : Nat} {x : Int} (h : x = (a : Int)) : x.tdiv (b : Int) = ((a / b : Nat) : Int) := by
  subst h
  rw [Int.tdiv_eq_ediv_of_nonneg (by omega)]
  exact (Int.natCast_ediv a b).symm


theorem i_PartMeans (v : Value) (cs : List Nat) (p : Int) (w : World) (hv : SL w v cs) :
    Calls Try.prog 22 #[v, .int .i64 p] w fun z w' => LB 33 w.heap.size w' z (partsQ cs p) ∧ Below w.heap.size w w' := by
  obtain ⟨ao, c, rfl, hcap, hlen⟩ := hv.slice2
  have HV := Lib.hid hv
  clear hv
  cases hok : (series cs && inB p 1 cs.length)
  · have HOK := Lib.hid hok
    clear hok
    go_enter Try.func22, Try.ntmps22
    go_wp2_with (go_at_call 74; refine (i_isPeriodOf _ cs _ _ HV.out).mono ?_; rintro z w1 ⟨rfl, n1, rfl⟩; rw [HOK.out])
    go_ret2
    exact ⟨LB.no _ _ _ (by rw [partsQ, HOK.out]; rfl), by (repeat (first | exact Below.refl _ _ | assumption | refine below_drewN ?_ _ | refine Below.drew ?_ | refine Below.alloc ?_ (by first | omega | (simp; omega) | (simp; done) | (simp at *; omega)) _ | refine Below.setCell ?_ (by first | omega | (simp; omega) | (simp; done) | (simp at *; omega)) _ | refine Below.trans ?_ (Below.mono (by assumption) (by first | omega | (simp; omega) | (simp; done) | (simp at *; omega)))))⟩
  · have hok' := hok
    simp only [Bool.and_eq_true, inB, decide_eq_true_eq] at hok'
    obtain ⟨hs, hp1, hp2⟩ := hok'
    obtain ⟨hl1, hl2⟩ := series_len hs
    obtain ⟨q, rfl⟩ := Int.eq_ofNat_of_zero_le (show 0 ≤ p by omega)
    have hq1 : 1 ≤ q := by omega
    have hq2 : q ≤ cs.length := by omega
    have HOK := Lib.hid hok
    clear hok hs hp1 hp2
    have HQ := Lib.hid (show partsQ cs (q : Int) = given (pmL cs q q) by rw [partsQ, HOK.out]; rfl)
    go_enter Try.func22, Try.ntmps22
    go_wp2_with (go_at_call 74; refine (i_isPeriodOf _ cs _ _ HV.out).mono ?_; rintro z w1 ⟨rfl, n1, rfl⟩; rw [HOK.out])
    go_loopw [7, 17] (fun v i wr => ∃ k : Nat, k ≤ q ∧ i = .int .i64 k ∧ Hid (OW 33 w.heap.size wr v (pmL cs q k)) ∧ Below w.heap.size w wr) (fun _ i _ => q - (intOf i).toNat)
    case atStart => exact ⟨0, Nat.zero_le _, rfl, (by show OW _ _ _ _ _; first | exact OW.drewN (OW.empty _ _ rfl (Nat.le_refl _)) _ | exact OW.empty _ _ rfl (Nat.le_refl _)), by (repeat (first | exact Below.refl _ _ | assumption | refine below_drewN ?_ _ | refine Below.drew ?_ | refine Below.alloc ?_ (by first | omega | (simp; omega) | (simp; done) | (simp at *; omega)) _ | refine Below.setCell ?_ (by first | omega | (simp; omega) | (simp; done) | (simp at *; omega)) _ | refine Below.trans ?_ (Below.mono (by assumption) (by first | omega | (simp; omega) | (simp; done) | (simp at *; omega)))))⟩
    case round =>
      obtain ⟨k, hk, rfl, HO, hb⟩ := hrel
      have hz := hb.size
      by_cases hlt : k < q
      · obtain ⟨g1, g2, g3, g4⟩ := part_bounds hlt hq2 hl2
        have i1 : 0 ≤ (k : Int) * (cs.length : Int) := Int.mul_nonneg (by omega) (by omega)
        have i2 : (k : Int) * (cs.length : Int) ≤ 9216 := mul_le_cast g3
        have i3 : 0 ≤ ((k : Int) + 1) * (cs.length : Int) := Int.mul_nonneg (by omega) (by omega)
        have i4 : ((k : Int) + 1) * (cs.length : Int) ≤ 9216 := mul_le_cast' g4
        have HL := Lib.hid (show (pmL cs q k).length < 1099511627776 by rw [pmL_length]; omega)
        have w1 := wrap_in i1 (by omega)
        have w2 := wrap_in (n := (k : Int) + 1) (by omega) (by omega)
        have w3 := wrap_in i3 (by omega)
        have d1 : ((k : Int) * (cs.length : Int)).tdiv (q : Int) = _ := tdiv_cast (a := k * cs.length) (by rw [Int.natCast_mul])
        have d2 : (((k : Int) + 1) * (cs.length : Int)).tdiv (q : Int) = _ := tdiv_cast (a := (k + 1) * cs.length) (by rw [Int.natCast_mul]; rfl)
        have hq0 : ¬ q = 0 := by omega
        obtain ⟨A, hA⟩ : ∃ A, A = k * cs.length / q := ⟨_, rfl⟩
        obtain ⟨B, hB⟩ : ∃ B, B = (k + 1) * cs.length / q := ⟨_, rfl⟩
        rw [← hA] at d1 g1
        rw [← hB] at d2 g1 g2
        have HP := Lib.hid (show partL cs q k = (cs.drop A).take (B - A) by rw [partL, ← hA, ← hB])
        clear hA hB
        have w4 := wrap_in (n := (A : Int)) (by omega) (by omega)
        have w5 := wrap_in (n := (B : Int)) (by omega) (by omega)
        have j1 : (A : Int) ≤ (B : Int) := by omega
        have j2 : (B : Int) ≤ (c : Int) := by omega
        have HS := Lib.hid (SL.sub (HV.out.keep hb) g1 g2)
        go_wp2_with fail
        go_region_law (first
          | (refine step_app1 f32s w.heap.size u7 _ rfl (by first | exact OW.drewN (OW.alloc HO.out _) _ | exact OW.alloc HO.out _ | exact OW.drewN (OW.alloc (OW.drew HO.out) _) _) _ r rfl (by simp; done) hr1 HL.out (by simp; omega) ?_; intro v' w' ho' hg'; have HO' := Lib.hid ho'; clear ho')
          | (go_simp; go_at_call 75; refine (i_mean _ _ _ (SL.drew HS.out)).mono ?_; rintro z w3 ⟨⟨r, rfl, hr1, hr2⟩, n3, rfl⟩; have HR := Lib.hid hr2; clear hr2))
        go_wp2_with fail
        refine ⟨⟨k + 1, by omega, by go_num, ?_, ?_⟩, by simp [intOf]; omega⟩
        · have h1 := HO'.out
          rw [HR.out, ← HP.out, ← pmL_succ] at h1
          exact h1
        · refine below_of_grown ?_ hg' (by simp; omega) HO.out.own_ge
          (repeat (first | exact Below.refl _ _ | assumption | refine below_drewN ?_ _ | refine Below.drew ?_ | refine Below.alloc ?_ (by first | omega | (simp; omega) | (simp; done) | (simp at *; omega)) _ | refine Below.setCell ?_ (by first | omega | (simp; omega) | (simp; done) | (simp at *; omega)) _ | refine Below.trans ?_ (Below.mono (by assumption) (by first | omega | (simp; omega) | (simp; done) | (simp at *; omega)))))
      · go_wp2_with (go_at_call 76; refine (i_ifAll _ _ _ HO.out.sb.sl).mono ?_; rintro z w3 ⟨⟨u, q', rfl, hu, hq⟩, n3, rfl⟩; have HU := Lib.hid hu; have HQ2 := Lib.hid hq; clear hu hq)
        go_ret2
        obtain rfl : k = q := by omega
        refine ⟨LB.given (OW.drewN HO.out _) HU.out HQ2.out HQ.out, ?_⟩
        (repeat (first | exact Below.refl _ _ | assumption | refine below_drewN ?_ _ | refine Below.drew ?_ | refine Below.alloc ?_ (by first | omega | (simp; omega) | (simp; done) | (simp at *; omega)) _ | refine Below.setCell ?_ (by first | omega | (simp; omega) | (simp; done) | (simp at *; omega)) _ | refine Below.trans ?_ (Below.mono (by assumption) (by first | omega | (simp; omega) | (simp; done) | (simp at *; omega)))))

end Go.Proofs.Ytkkomajokdlkeaa

namespace Go.Proofs.Ytkkomajokdlkeaa
set_option linter.unusedSimpArgs false
set_option linter.unusedVariables false
set_option maxRecDepth 100000
set_option maxHeartbeats 4000000
open Go.RowKit
attribute [local go_sem] run_store_float run_store_complex alloc_drewN setCell_drewN

theorem SB.get {w : World} {v : Value} {cs : List Nat} (h : SB w v cs) {n : Nat} (hn : cs.length = n) : ∃ ao c, v = .slice ao n c ∧ n ≤ c ∧ c ≤ 9223372036854775807 ∧ ∀ i, i < n → ∃ b off r, ao = some ⟨b, off, none⟩ ∧ b < w.heap.size ∧ w.cell? ⟨b, off + i, none⟩ = some (.float .f32 r) ∧ r < 4294967296 ∧ cn .f32 r = cs.getD i 0 := by
  obtain ⟨ao, c, xs, rfl, rfl, h3, h5, h4⟩ := h
  have hn' : xs.length = n := by simpa using hn
  subst hn'
  refine ⟨ao, c, rfl, h3.1, h3.2, fun i hi => ?_⟩
  obtain ⟨b, off, e1, e2, e3⟩ := h4 i hi
  exact ⟨b, off, xs[i], e1, e2, e3, h5 _ (List.getElem_mem hi), by simp [hi]⟩

/-- What a drift becomes with a number. -/
def dRaw (down : Bool) (cm ck s x : Nat) : Nat := if down then subF (subF (addF s cm) x) ck else subF (subF (addF s x) cm) ck
def dStep (down : Bool) (cm ck s x : Nat) : Nat := if fc .lss .f32 (dRaw down cm ck s x) 0 then 0 else dRaw down cm ck s x
def dAt (down : Bool) (cm ck : Nat) (cs : List Nat) : Nat → Nat
  | 0 => 0
  | k + 1 => dStep down cm ck (dAt down cm ck cs k) (cs.getD k 0)
def dL (down : Bool) (cm ck : Nat) (cs : List Nat) (n : Nat) : List Nat := (List.range n).map fun i => dAt down cm ck cs (i + 1)
theorem dL_length (down : Bool) (cm ck : Nat) (cs : List Nat) (n : Nat) : (dL down cm ck cs n).length = n := by simp [dL]
theorem dL_succ (down : Bool) (cm ck : Nat) (cs : List Nat) (n : Nat) : dL down cm ck cs (n + 1) = dL down cm ck cs n ++ [dAt down cm ck cs (n + 1)] := by simp [dL, List.range_succ]
def driftOk (cs : List Nat) (cm ck : Nat) : Bool := series cs && fin cm && least ck
def driftQ (down : Bool) (cs : List Nat) (cm ck : Nat) : List Nat × Bool := if driftOk cs cm ck then given (dL down cm ck cs cs.length) else ([], false)
theorem driftQ_no (down : Bool) {cs : List Nat} {cm ck : Nat} (h : driftOk cs cm ck = false) : driftQ down cs cm ck = ([], false) := by rw [driftQ, h]; rfl
theorem driftQ_yes (down : Bool) {cs : List Nat} {cm ck : Nat} (h : driftOk cs cm ck = true) : driftQ down cs cm ck = given (dL down cm ck cs cs.length) := by rw [driftQ, h]; rfl

end Go.Proofs.Ytkkomajokdlkeaa

namespace Go.Proofs.Ytkkomajokdlkeaa
set_option linter.unusedSimpArgs false
set_option linter.unusedVariables false
set_option maxRecDepth 100000
set_option maxHeartbeats 4000000
open Go.RowKit
attribute [local go_sem] run_store_float run_store_complex alloc_drewN setCell_drewN

/-- The first number that is so, -1 if there is none. -/
def dFind (p : Nat → Bool) (n : Nat) : Int := match (List.range n).find? p with | some i => (i : Int) | none => -1
theorem dFind_hit {p : Nat → Bool} {n k : Nat} (hk : k < n) (hp : p k = true) (hb : ∀ i, i < k → p i = false) : dFind p n = k := by
  have : (List.range n).find? p = some k := by
    rw [List.find?_range_eq_some]
    exact ⟨hp, by simpa using hk, fun j hj => by simp [hb j hj]⟩
  rw [dFind, this]
theorem dFind_none {p : Nat → Bool} {n : Nat} (hb : ∀ i, i < n → p i = false) : dFind p n = -1 := by
  have : (List.range n).find? p = none := by
    rw [List.find?_eq_none]
    intro i hi
    have := hb i (by simpa using hi)
    simp [this]
  rw [dFind, this]
theorem driftQ_len {down : Bool} {cs : List Nat} {cm ck : Nat} (h : (driftQ down cs cm ck).2 = true) : (driftQ down cs cm ck).1.length = cs.length ∧ cs.length ≤ 96 := by
  unfold driftQ at h ⊢
  split
  · rename_i hok
    rw [if_pos hok] at h
    refine ⟨?_, (series_len (show series cs = true by simp only [driftOk, Bool.and_eq_true] at hok; exact hok.1.1)).2⟩
    unfold given at h ⊢
    dsimp only at h ⊢
    rw [if_pos h, dL_length]
  · rename_i hok
    rw [if_neg hok] at h
    cases h
theorem driftQ_short (down : Bool) (cs : List Nat) (cm ck : Nat) : (driftQ down cs cm ck).1.length < 1000000 := by
  unfold driftQ
  split
  · rename_i hok
    have := (series_len (show series cs = true by simp only [driftOk, Bool.and_eq_true] at hok; exact hok.1.1)).2
    unfold given
    dsimp only
    split
    · rw [dL_length]; omega
    · simp
  · simp
def daFar (cs : List Nat) (cm ck cb : Nat) (i : Nat) : Bool := fc .gtr .f32 ((driftQ false cs cm ck).1.getD i 0) cb || fc .gtr .f32 ((driftQ true cs cm ck).1.getD i 0) cb
def daQ (cs : List Nat) (cm ck cb : Nat) : Int × Bool :=
  if (driftQ false cs cm ck).2 && (driftQ true cs cm ck).2 && least cb then (dFind (daFar cs cm ck cb) cs.length, true) else (0, false)
theorem daQ_no {cs : List Nat} {cm ck cb : Nat} (h : ((driftQ false cs cm ck).2 && (driftQ true cs cm ck).2 && least cb) = false) : daQ cs cm ck cb = (0, false) := by rw [daQ, h]; rfl
theorem daQ_yes {cs : List Nat} {cm ck cb : Nat} (h : ((driftQ false cs cm ck).2 && (driftQ true cs cm ck).2 && least cb) = true) : daQ cs cm ck cb = (dFind (daFar cs cm ck cb) cs.length, true) := by rw [daQ, h]; rfl
theorem ret_ib {a c : Int} {b d : Bool} (h1 : a = c) (h2 : b = d) : Ending.returned (.tuple #[.int .i64 a, .bool b]) = .returned (.tuple #[.int .i64 c, .bool d]) := by rw [h1, h2]

end Go.Proofs.Ytkkomajokdlkeaa

namespace Go.Proofs.Ytkkomajokdlkeaa
set_option linter.unusedSimpArgs false
set_option linter.unusedVariables false
set_option maxRecDepth 100000
set_option maxHeartbeats 4000000
open Go.RowKit
/-- A check that decides: c is x eighths. -/
def evB (c : Nat) (x : Int) : Bool := match S.read c with
  | .number s m p => decide (c < 4294967296) && decide (p ≤ -3) && (m == x.natAbs * 2 ^ (-3 - p).toNat) && (decide (x = 0) || (s == decide (x < 0)))
  | _ => false
theorem ev_of {c : Nat} {x : Int} (h : evB c x = true) : Ev c x := by
  unfold evB at h
  split at h
  · rename_i s m p hr
    simp only [Bool.and_eq_true, Bool.or_eq_true, decide_eq_true_eq, beq_iff_eq] at h
    obtain ⟨⟨⟨h1, h2⟩, h3⟩, h4⟩ := h
    refine ⟨h1, s, (-3 - p).toNat, ?_, fun h0 => ?_⟩
    · rw [hr, h3, show (-3 - (((-3 - p).toNat : Nat) : Int)) = p by omega]
    · rcases h4 with h4 | h4
      · exact absurd h4 h0
      · exact h4
  · cases h
/-- A drift, by integers. -/
def iStep (down : Bool) (M K s x : Int) : Int := let r := if down then s + M - x - K else s + x - M - K; if r < 0 then 0 else r
def iAt (down : Bool) (M K : Int) (X : Nat → Int) : Nat → Int
  | 0 => 0
  | n + 1 => iStep down M K (iAt down M K X n) (X n)
theorem iAt_bound (down : Bool) {M K : Int} {X : Nat → Int} (hX : ∀ i, (X i).natAbs ≤ 100) (hM : M.natAbs ≤ 100) (hK : K.natAbs ≤ 100) : ∀ n, 0 ≤ iAt down M K X n ∧ iAt down M K X n ≤ 300 * n
  | 0 => ⟨Int.le_refl _, by simp [iAt]⟩
  | n + 1 => by
    have ih := iAt_bound down hX hM hK n
    have hx := hX n
    rw [iAt, iStep]
    cases down
    · simp only [Bool.false_eq_true, if_false]
      split <;> omega
    · simp only [if_true]
      split <;> omega
theorem dAt_ev (down : Bool) {M K : Int} {X : Nat → Int} {cm ck : Nat} {cs : List Nat} (hX : ∀ i, (X i).natAbs ≤ 100) (hM : M.natAbs ≤ 100) (hK : K.natAbs ≤ 100) (hm : Ev cm M) (hk : Ev ck K) (hc : ∀ i, i < cs.length → Ev (cs.getD i 0) (X i)) : ∀ n, n ≤ cs.length → n ≤ 1000 → Ev (dAt down cm ck cs n) (iAt down M K X n)
  | 0, _, _ => ev_zero
  | n + 1, h, h1 => by
    have ih := dAt_ev down hX hM hK hm hk hc n (by omega) (by omega)
    have hb := iAt_bound down hX hM hK n
    have hx := hX n
    have hraw : Ev (dRaw down cm ck (dAt down cm ck cs n) (cs.getD n 0)) (if down then iAt down M K X n + M - X n - K else iAt down M K X n + X n - M - K) := by
      cases down
      · exact ev_up ih (hc n (by omega)) hm hk (by omega) (by omega) (by omega) (by omega)
      · exact ev_down ih (hc n (by omega)) hm hk (by omega) (by omega) (by omega) (by omega)
    rw [dAt, iAt, dStep, iStep]
    rw [hraw.lss ev_zero]
    generalize (if down then iAt down M K X n + M - X n - K else iAt down M K X n + X n - M - K) = r at *
    by_cases h : r < 0
    · rw [if_pos (decide_eq_true h), if_pos h]
      exact ev_zero
    · rw [if_neg (by rw [decide_eq_false h]; decide), if_neg h]
      exact hraw
/-- Up is down of the opposites. -/
theorem iAt_turn (M K : Int) (X : Nat → Int) : ∀ n, iAt true (-M) K (fun i => -(X i)) n = iAt false M K X n
  | 0 => rfl
  | n + 1 => by
    rw [iAt, iAt, iAt_turn M K X n, iStep, iStep]
    simp only [if_true, Bool.false_eq_true, if_false]
    rw [show iAt false M K X n + -M - -(X n) - K = iAt false M K X n + X n - M - K by omega]
/-- Of two that are as many eighths one is the other, but for the sign of zero. -/
theorem Ev.same {a b : Nat} {x : Int} (ha : Ev a x) (hb : Ev b x) : a = b ∨ ((a = 0 ∨ a = 2147483648) ∧ (b = 0 ∨ b = 2147483648)) := by
  by_cases h0 : x = 0
  · subst h0
    refine .inr ⟨?_, ?_⟩
    · exact ev_zeros ha
    · exact ev_zeros hb
  · have ho := ha.order hb
    rw [cmpI, if_neg (by omega), if_pos rfl] at ho
    obtain ⟨h1, s, k, h2, h3⟩ := ha
    obtain ⟨h4, t, j, h5, h6⟩ := hb
    refine .inl (bits_of_eq h1 h4 ho ?_)
    rw [h2, h5]
    show s = t
    rw [h3 h0, h6 h0]
where
  ev_zeros {a : Nat} (ha : Ev a 0) : a = 0 ∨ a = 2147483648 := by
    have hz := ha
    have ho := ha.order ev_zero
    rw [cmpI, if_neg (by omega), if_pos rfl] at ho
    obtain ⟨h1, s, k, h2, -⟩ := ha
    cases s with
    | false =>
      refine .inl (bits_of_eq h1 (by decide) ho ?_)
      rw [h2]
      show false = (S.read 0).neg
      decide
    | true =>
      have ho2 := hz.order (show Ev 2147483648 0 from ⟨by decide, true, 146, by decide, by simp⟩)
      rw [cmpI, if_neg (by omega), if_pos rfl] at ho2
      refine .inr (bits_of_eq h1 (by decide) ho2 ?_)
      rw [h2]
      show true = (S.read 2147483648).neg
      decide

end Go.Proofs.Ytkkomajokdlkeaa
