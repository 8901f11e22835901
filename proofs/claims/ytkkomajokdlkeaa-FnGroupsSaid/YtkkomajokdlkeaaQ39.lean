/- Centers of small series: they are there, and each series is in the group of its nearest center. Plain: no program. -/
import Derived.Test.YtkkomajokdlkeaaQ28
import Derived.Test.YtkkomajokdlkeaaQ30
import Derived.Test.YtkkomajokdlkeaaQ34
import Derived.Test.YtkkomajokdlkeaaQ38
namespace Go.Proofs.Ytkkomajokdlkeaa
set_option linter.unusedSimpArgs false
set_option linter.unusedVariables false
set_option maxRecDepth 100000
set_option maxHeartbeats 4000000
open Go.RowKit
/-- Numbers that are not great. -/
structure Vl (L : Nat) (cs : List Nat) : Prop where
  len : cs.length = L
  val : ∀ i, i < L → ∃ x, QV S (cs.getD i 0) x ∧ -(17 / 4) ≤ x ∧ x ≤ 17 / 4
theorem Sm.vl {n : Nat} {cs : List Nat} {X : Nat → Int} (h : Sm n cs X) : Vl n cs :=
  ⟨h.len, fun i hi => by obtain ⟨a, b, c⟩ := h.qv hi; exact ⟨_, a, by grind, by grind⟩⟩
theorem Vl.allFin {L : Nat} {cs : List Nat} (h : Vl L cs) : allFin cs = true := by
  show cs.all fin = true
  rw [List.all_eq_true]
  intro c hc
  obtain ⟨i, hi, rfl⟩ := List.getElem_of_mem hc
  obtain ⟨x, h1, h2, h3⟩ := h.val i (by have := h.len; omega)
  have := h1.fin (by grind) (by grind)
  rw [List.getD_eq_getElem?_getD, List.getElem?_eq_getElem hi] at this
  exact this
theorem Vl.far {n : Nat} {cs ds : List Nat} (h : Vl n cs) (g : Vl n ds) (h2 : n ≤ 9) : ∃ F, QV S (farL cs ds) F ∧ 0 ≤ F ∧ F ≤ 1000 := by
  have hr : ∀ i, ∃ r : Rat, i < n → QV S (subF (cs.getD i 0) (ds.getD i 0)) r ∧ -9 ≤ r ∧ r ≤ 9 := by
    intro i
    by_cases hi : i < n
    · obtain ⟨x, a1, a2, a3⟩ := h.val i hi
      obtain ⟨y, b1, b2, b3⟩ := g.val i hi
      obtain ⟨r, r1, n1, n2, r2⟩ := subF_qv a1 b1 (by unfold big; grind) (by unfold big; grind)
      have r3 := r2 8.5 (by grind) (by grind)
      exact ⟨r, fun _ => ⟨r1, by grind, by grind⟩⟩
    · exact ⟨0, fun h => absurd h hi⟩
  obtain ⟨R, hR⟩ := Classical.skolem.1 hr
  obtain ⟨w1, V, hV, v0, v1, v2⟩ := sqs_all (f := fun i => subF (cs.getD i 0) (ds.getD i 0)) h2 hR n (Nat.le_refl _)
  have hn9 := cast_le9 h2
  have hw := rs_nonneg (f := fun i => R i * R i) (n := n) (fun i _ => sqr_nonneg _) n (Nat.le_refl _)
  have hk9a := Rat.mul_le_mul_of_nonneg_left hn9.2 hw
  obtain ⟨F, hF, f0, f1, f2, f3, f4⟩ := rootF_qv hV v0 (by grind)
  rw [show rootF (sqsL (fun i => subF (cs.getD i 0) (ds.getD i 0)) n) = farL cs ds by rw [farL, h.len]] at hF
  exact ⟨F, hF, f1, sq_le_of (by grind) (by grind)⟩
/-- A list of small series. -/
structure Sml (N n : Nat) (css : List (List Nat)) : Prop where
  len : css.length = N
  row : ∀ k, k < N → ∃ X, Sm n (rowL css k) X
/-- A list of centers. -/
structure Cen (C L : Nat) (cts : List (List Nat)) : Prop where
  len : cts.length = C
  row : ∀ c, c < C → Vl L (rowL cts c)
theorem sumTo_val {N L : Nat} {css : List (List Nat)} (h : Sml N L css) (gs : List Int) (c : Int) : ∀ n, n ≤ N → N ≤ 6 → ∀ i, i < L → ∃ x, QV S ((sumTo css gs c L n).getD i 0) x ∧ -(4001 / 1000) * (cntTo gs c n : Rat) ≤ x ∧ x ≤ 4001 / 1000 * (cntTo gs c n : Rat)
  | 0, _, _, i, hi => by
    refine ⟨0, ?_, ?_, ?_⟩
    · rw [show (sumTo css gs c L 0).getD i 0 = 0 by simp [sumTo, List.getD_eq_getElem?_getD, List.getElem?_replicate, hi]]; exact zero_qv
    · show -(4001 / 1000) * ((0 : Nat) : Rat) ≤ 0; decide +kernel
    · show (0 : Rat) ≤ 4001 / 1000 * ((0 : Nat) : Rat); decide +kernel
  | n + 1, hn, h6, i, hi => by
    obtain ⟨x, h1, h2, h3⟩ := sumTo_val (N := N) (L := L) (css := css) h gs c n (by omega) h6 i hi
    by_cases hg : gs.getD n 0 = c
    · obtain ⟨X, hX⟩ := h.row n (by omega)
      obtain ⟨y1, y2, y3⟩ := hX.qv hi
      have hc6 : (cntTo gs c n : Rat) ≤ 6 := by
        have := cntTo_le gs c n
        exact Rat.natCast_le_natCast.2 (show cntTo gs c n ≤ 6 by omega)
      have hc0 : (0 : Rat) ≤ (cntTo gs c n : Rat) := Rat.natCast_nonneg
      rw [sumTo_in hg, cntTo_in hg, cast_succ, List.getD_eq_getElem?_getD, addL_get (by rw [sumTo_length]; exact hi), Option.getD_some]
      obtain ⟨z, hz, -, -, hz2⟩ := addF_qv h1 y1 (by unfold big; grind) (by unfold big; grind)
      have hz3 := hz2 30 (by grind) (by grind)
      exact ⟨z, hz, by grind, by grind⟩
    · rw [sumTo_out hg, cntTo_out hg]
      exact ⟨x, h1, h2, h3⟩
theorem Cen.new {N C L : Nat} {css cts : List (List Nat)} (h : Sml N L css) (hN : N ≤ 6) (hc : Cen C L cts) (gs : List Int) : Cen C L (newC css cts gs L) := by
  refine ⟨by rw [newC_length, hc.len], fun c hcc => ?_⟩
  rw [newC_row (by rw [hc.len]; exact hcc), cenN]
  split
  · exact hc.row c hcc
  · rename_i hne
    refine ⟨by rw [divL_length, sumTo_length], fun i hi => ?_⟩
    rw [List.getD_eq_getElem?_getD, divL_get (by rw [sumTo_length]; exact hi), Option.getD_some]
    obtain ⟨x, h1, h2, h3⟩ := sumTo_val h gs (c : Int) css.length (by rw [h.len]; exact Nat.le_refl _) hN i hi
    have hle := cntTo_le gs (c : Int) css.length
    generalize cntTo gs (c : Int) css.length = m at *
    have hl := h.len
    have hf := (fI_ev (n := m) (by omega)).qv
    rw [Rat.intCast_mul, Rat.intCast_natCast, c8i] at hf
    have e8 : (8 : Rat) * (m : Rat) / 8 = (m : Rat) := by grind
    rw [e8] at hf
    have mp : (0 : Rat) < (m : Rat) := Rat.natCast_pos.2 (by omega)
    obtain ⟨w, hw⟩ : ∃ w : Rat, w * (m : Rat) = x := ⟨x / (m : Rat), Rat.div_mul_cancel (by grind)⟩
    have w1 : w ≤ 4001 / 1000 := Rat.le_of_mul_le_mul_right (c := (m : Rat)) (by grind) mp
    have w2 : -(4001 / 1000) ≤ w := Rat.le_of_mul_le_mul_right (c := (m : Rat)) (by grind) mp
    obtain ⟨z, hz, -, -, hz2⟩ := divF_qv h1 hf (by grind) hw (by grind) (by grind)
    have hz3 := hz2 (4001 / 1000) (by grind) (by grind)
    exact ⟨z, hz, by grind, by grind⟩
theorem Cen.finF {C L : Nat} {cts : List (List Nat)} (hc : Cen C L cts) (hL : L ≤ 9) {x : List Nat} (hx : Vl L x) : ∃ F : Nat → Rat, ∀ c, c < C → QV S (farL (rowL cts c) x) (F c) ∧ 0 ≤ F c ∧ F c ≤ 1000 := by
  have hf : ∀ c, ∃ F, c < C → QV S (farL (rowL cts c) x) F ∧ 0 ≤ F ∧ F ≤ 1000 := by
    intro c
    by_cases h : c < C
    · obtain ⟨F, h1⟩ := (hc.row c h).far hx hL
      exact ⟨F, fun _ => h1⟩
    · exact ⟨0, fun h2 => absurd h2 h⟩
  exact Classical.skolem.1 hf
/-- The nearest center. -/
theorem Cen.near {C L : Nat} {cts : List (List Nat)} (hc : Cen C L cts) (hC : 1 ≤ C) (hL : L ≤ 9) {x : List Nat} (hx : Vl L x) : ∃ j : Nat, j < C ∧ nearL cts x = ((j : Int), farL (rowL cts j) x, true) ∧ ∀ c, c < C → fc .lss .f32 (farL (rowL cts c) x) (farL (rowL cts j) x) = false := by
  obtain ⟨F, hF⟩ := hc.finF hL hx
  obtain ⟨m, rfl⟩ : ∃ m, C = m + 1 := ⟨C - 1, by omega⟩
  obtain ⟨j, j1, j2, j3, -⟩ := ns_at (css := cts) (x := x) (F := F) (n := m + 1) (fun i hi => (hF i hi).1) m (by omega)
  have hall : nsFin cts x cts.length = true := by
    rw [hc.len]
    exact nsFin_all (n := m + 1) (fun i hi => (hF i hi).1.fin (by have := (hF i hi).2.1; grind) (hF i hi).2.2) (m + 1) (Nat.le_refl _)
  refine ⟨j, by omega, by rw [nearL_yes hall, hc.len, j2], fun c hcc => ?_⟩
  rw [(hF c hcc).1.lss (hF j (by omega)).1]
  have := j3 c (by omega)
  exact decide_eq_false (by grind)
theorem Cen.gok {N C L : Nat} {css cts : List (List Nat)} (h : Sml N L css) (hc : Cen C L cts) (hC : 1 ≤ C) (hL : L ≤ 9) : gOk css cts = true :=
  gOk_yes fun k hk => by
    obtain ⟨X, hX⟩ := h.row k (by rw [← h.len]; exact hk)
    obtain ⟨j, -, h2, -⟩ := hc.near hC hL hX.vl
    rw [h2]
theorem cen_all {N C L : Nat} {css : List (List Nat)} (h : Sml N L css) (hN : N ≤ 6) (hC : 1 ≤ C) (hL : L ≤ 9) : ∀ r cts, Cen C L cts → ∃ cts', cenQ css L r cts = (cts', grp css cts', true) ∧ Cen C L cts'
  | 0, cts, hc => ⟨cts, by rw [cenQ, hc.gok h hC hL]; rfl, hc⟩
  | r + 1, cts, hc => by
    have hn := Cen.new h hN hc (grp css cts)
    obtain ⟨cts', h1, h2⟩ := cen_all h hN hC hL r _ hn
    refine ⟨cts', ?_, h2⟩
    have ha : (newC css cts (grp css cts) L).all allFin = true := by
      rw [all_rows]
      intro c hcc
      exact (hn.row c (by rw [hn.len] at hcc; exact hcc)).allFin
    rw [cenQ, hc.gok h hC hL, if_pos rfl, ha, if_pos rfl, h1]
theorem Sml.listOk {N n : Nat} {css : List (List Nat)} (h : Sml N n css) (h1 : 1 ≤ n) (h2 : n ≤ 96) (hN : 1 ≤ N) (hN2 : N ≤ 16) : listOk css = true := by
  have hl := h.len
  refine listOk_of (by show (decide _ && decide _) = true; rw [decide_eq_true (by omega), decide_eq_true (by omega)]; rfl) fun i hi => ?_
  obtain ⟨X, hX⟩ := h.row i (by omega)
  obtain ⟨X0, hX0⟩ := h.row 0 (by omega)
  exact ⟨hX.series h1 h2, by rw [hX.len, show headL css = rowL css 0 from rfl, hX0.len]⟩
/-- What CentersOf gives. -/
theorem ce_all {N L C R : Nat} {css : List (List Nat)} (h : Sml N L css) (hN1 : 1 ≤ N) (hN : N ≤ 6) (h1 : 1 ≤ L) (hL : L ≤ 9) (hC1 : 1 ≤ C) (hC : C ≤ N) (hR : R ≤ 32) :
    ∃ cts, ceQ css (C : Int) (R : Int) = (cts, grp css cts, true) ∧ Cen C L cts := by
  have hok := h.listOk h1 (by omega) hN1 (by omega)
  have hh : (headL css).length = L := by obtain ⟨X, hX⟩ := h.row 0 (by omega); exact hX.len
  have hc0 : Cen C L (css.take C) := ⟨by rw [List.length_take, h.len]; omega, fun c hc => by
    rw [rowL_take hc (by rw [h.len]; exact hC)]
    obtain ⟨X, hX⟩ := h.row c (by omega)
    exact hX.vl⟩
  obtain ⟨cts, h2, h3⟩ := cen_all h hN hC1 hL R _ hc0
  refine ⟨cts, ?_, h3⟩
  rw [ceQ_yes hok hC1 (by rw [h.len]; exact hC) hR, cenP, take_ok hok hC1 (by rw [h.len]; exact hC), if_pos rfl, hh, h2]
/-- The group of a series, and how far its center is. -/
theorem grp_all {N C L : Nat} {css cts : List (List Nat)} (h : Sml N L css) (hc : Cen C L cts) (hC : 1 ≤ C) (h1 : 1 ≤ L) (hL : L ≤ 9) {i : Nat} (hi : i < N) :
    ∃ j : Nat, j < C ∧ (grp css cts).getD i 0 = (j : Int) ∧ (∀ c, c < C → farQ (rowL css i) (rowL cts c) = (farL (rowL css i) (rowL cts c), true) ∧ (S.read (farL (rowL css i) (rowL cts c))).isNaN = false) ∧ ∀ c, c < C → fc .lss .f32 (farL (rowL css i) (rowL cts c)) (farL (rowL css i) (rowL cts j)) = false := by
  obtain ⟨X, hX⟩ := h.row i hi
  obtain ⟨j, j1, j2, j3⟩ := hc.near hC hL hX.vl
  have hb : ∀ c, c < C → farL (rowL css i) (rowL cts c) = farL (rowL cts c) (rowL css i) := fun c hcc => far_back (by rw [hX.len, (hc.row c hcc).len])
  refine ⟨j, j1, ?_, fun c hcc => ?_, fun c hcc => by rw [hb c hcc, hb j j1]; exact j3 c hcc⟩
  · rw [List.getD_eq_getElem?_getD, grp_get (by rw [h.len]; exact hi), Option.getD_some, j2]
  · obtain ⟨F, f1, f2, f3⟩ := hX.vl.far (hc.row c hcc) hL
    have hs : series (rowL cts c) = true := series_iff.2 ⟨by rw [(hc.row c hcc).len]; omega, (hc.row c hcc).allFin⟩
    exact ⟨by rw [farQ_two (two_iff.2 ⟨hX.series h1 (by omega), hs, by rw [hX.len, (hc.row c hcc).len]⟩), numB_yes (f1.fin (by grind) f3)], f1.notNaN⟩
/-- The width. -/
theorem wc_all {N L : Nat} {css : List (List Nat)} (h : Sml N L css) (hN1 : 1 ≤ N) (hN : N ≤ 6) (h1 : 1 ≤ L) (hL : L ≤ 9) {gs : List Int} (hg : gs.length = N) (hgs : ∀ i, i < N → 0 ≤ gs.getD i 0 ∧ gs.getD i 0 ≤ 15) : (wcQ css gs).2 = true := by
  have hok := h.listOk h1 (by omega) hN1 (by omega)
  have hgo : wcGood css gs = true := wcGood_of hok (by rw [hg, h.len]) (allIn_yes fun i hi => (inB_iff _ _ _).2 (hgs i (by omega)))
  have hf : ∀ i k, i < N → k < N → fin (wf2 css i k) = true := fun i k hi hk => by
    obtain ⟨X, hX⟩ := h.row i hi
    obtain ⟨Y, hY⟩ := h.row k hk
    obtain ⟨F, f1, f2, f3⟩ := hX.vl.far hY.vl hL
    exact f1.fin (by grind) f3
  have hin : ∀ i, i < N → ∀ k, k ≤ N → wcOkIn css gs i k = true := by
    intro i hi k
    induction k with
    | zero => intro _; rfl
    | succ k ih =>
      intro hk
      show (_ && _) = true
      rw [ih (by omega), hf i k hi (by omega)]; simp
  have hall : ∀ k, k ≤ N → wcOk css gs k = true := by
    intro k
    induction k with
    | zero => intro _; rfl
    | succ k ih =>
      intro hk
      show (_ && _) = true
      rw [ih (by omega), hin k (by omega) k (by omega)]; rfl
  rw [wcQ_yes hgo (by rw [h.len]; exact hall N (Nat.le_refl _))]

end Go.Proofs.Ytkkomajokdlkeaa

namespace Go.Proofs.Ytkkomajokdlkeaa
set_option linter.unusedSimpArgs false
set_option linter.unusedVariables false
set_option maxRecDepth 100000
set_option maxHeartbeats 4000000
open Go.RowKit
theorem near_false (f : Ieee.Format) (m : Nat) (p : Int) : f.nearest false m p ≤ f.infRung := by
  unfold Ieee.Format.nearest
  split
  · exact Nat.zero_le _
  · exact Nat.min_le_right _ _
theorem read_false {f : Ieee.Format} {c : Nat} (hc : c ≤ f.infRung) {s : Bool} {m : Nat} {p : Int} (h : f.read c = .number s m p) : s = false := by
  have h1 : c / f.signWeight = 0 := Nat.div_eq_of_lt (Nat.lt_of_le_of_lt hc f.infRung_lt)
  unfold Ieee.Format.read at h
  dsimp only at h
  rw [h1] at h
  split at h
  · injection h with h2; exact h2.symm
  · split at h
    · injection h with h2; exact h2.symm
    · split at h <;> cases h
theorem addF_inf {a b : Nat} {x y : Rat} (ha : a ≤ S.infRung) (hb : b ≤ S.infRung) (hx : QV S a x) (hy : QV S b y) : addF a b ≤ S.infRung := by
  obtain ⟨s, m, i, h1, -⟩ := hx
  obtain ⟨t, n, j, h2, -⟩ := hy
  have e1 := read_false ha h1
  have e2 := read_false hb h2
  subst e1 e2
  have e : addF a b = S.write (.number (if Ieee.signed false m (i - min i j).toNat + Ieee.signed false n (j - min i j).toNat = 0 then false && false else Ieee.signed false m (i - min i j).toNat + Ieee.signed false n (j - min i j).toNat < 0) (Ieee.signed false m (i - min i j).toNat + Ieee.signed false n (j - min i j).toNat).natAbs (min i j)) := by
    show ((S.add a b).getD _) = _
    rw [Ieee.Format.add, h1, h2]; rfl
  have hs : (if Ieee.signed false m (i - min i j).toNat + Ieee.signed false n (j - min i j).toNat = 0 then false && false else decide (Ieee.signed false m (i - min i j).toNat + Ieee.signed false n (j - min i j).toNat < 0)) = false := by
    rw [signed_f, signed_f]
    split
    · rfl
    · exact decide_eq_false (Int.not_lt.2 (Int.add_nonneg (Int.natCast_nonneg _) (Int.natCast_nonneg _)))
  rw [e, hs]
  exact near_false _ _ _
theorem sqF_inf {a : Nat} {x : Rat} (hx : QV S a x) : mulF a a ≤ S.infRung := by
  obtain ⟨s, m, i, h1, -⟩ := hx
  have e : mulF a a = S.write (.number (s ^^ s) (m * m) (i + i)) := by
    show ((S.mul a a).getD _) = _
    rw [Ieee.Format.mul, h1]; rfl
  rw [e, show (s ^^ s) = false by cases s <;> rfl]
  exact near_false _ _ _
theorem sqsL_inf {f : Nat → Nat} {R : Nat → Rat} {n : Nat} (hn : n ≤ 9) (hR : ∀ i, i < n → QV S (f i) (R i) ∧ -9 ≤ R i ∧ R i ≤ 9) : ∀ k, k ≤ n → sqsL f k ≤ S.infRung
  | 0, _ => Nat.zero_le _
  | k + 1, hk => by
    have ih := sqsL_inf (n := n) hn hR k (by omega)
    obtain ⟨-, V, hV, -⟩ := sqs_all (n := n) hn hR k (by omega)
    obtain ⟨hr, r1, r2⟩ := hR k (by omega)
    have hb2 : R k * R k ≤ 1000 := by
      have := Rat.mul_nonneg (show 0 ≤ 9 - R k by grind) (show 0 ≤ 9 + R k by grind)
      grind
    have hb0 := sqr_nonneg (R k)
    obtain ⟨P, hP, -⟩ := mulF_qv hr hr (by unfold big; grind) (by unfold big; grind)
    exact addF_inf ih (sqF_inf hr) hV hP
theorem rootF_inf {a : Nat} {x : Rat} (hc : a ≤ S.infRung) (ha : QV S a x) (h0 : 0 ≤ x) (h2 : x ≤ 1048576) : rootF a ≤ S.infRung := by
  obtain ⟨x1, k1, n1, n2, n3⟩ := wd_qv ha (by unfold big; grind) (by unfold big; grind)
  have m1 := n3 x (by grind) (by grind)
  have hx1 := n1 h0
  obtain ⟨c, z, Y, k2, k3, -⟩ := k1.sqrt rd_D hx1 (by grind)
  have ew : wd a = D.write (S.read a) := by unfold wd; rw [if_neg (by simp [ha.notNaN])]
  obtain ⟨s, m, p, h3, -⟩ := ha
  have e1 := read_false hc h3
  subst e1
  rw [h3] at ew
  have hw : wd a ≤ D.infRung := by rw [ew]; exact near_false _ _ _
  obtain ⟨s2, m2, p2, h4, -⟩ := k1
  have e2 := read_false hw h4
  subst e2
  have hcq : c ≤ D.infRung := by
    unfold Ieee.Format.sqrt at k2
    rw [h4] at k2
    simp only [Ieee.Datum.root] at k2
    split at k2
    · simp only [Option.map_some, Option.some.injEq] at k2
      rw [← k2]; exact near_false _ _ _
    · simp only [Bool.false_eq_true, if_false, Option.map_some, Option.some.injEq] at k2
      rw [← k2]; exact near_false _ _ _
  have er : rootF a = nwD c := by unfold rootF sqD; rw [k2]; rfl
  have en : nwD c = S.write (D.read c) := by unfold nwD; rw [if_neg (by simp [k3.notNaN])]
  obtain ⟨s3, m3, p3, h5, -⟩ := k3
  have e3 := read_false hcq h5
  subst e3
  rw [er, en, h5]
  exact near_false _ _ _
theorem Vl.far_small {n : Nat} {cs ds : List Nat} (h : Vl n cs) (g : Vl n ds) (h2 : n ≤ 9) : farL cs ds < 2139095040 := by
  obtain ⟨F, hF, -, -⟩ := h.far g h2
  have hr : ∀ i, ∃ r : Rat, i < n → QV S (subF (cs.getD i 0) (ds.getD i 0)) r ∧ -9 ≤ r ∧ r ≤ 9 := by
    intro i
    by_cases hi : i < n
    · obtain ⟨x, a1, a2, a3⟩ := h.val i hi
      obtain ⟨y, b1, b2, b3⟩ := g.val i hi
      obtain ⟨r, r1, n1, n2, r2⟩ := subF_qv a1 b1 (by unfold big; grind) (by unfold big; grind)
      have r3 := r2 8.5 (by grind) (by grind)
      exact ⟨r, fun _ => ⟨r1, by grind, by grind⟩⟩
    · exact ⟨0, fun h => absurd h hi⟩
  obtain ⟨R, hR⟩ := Classical.skolem.1 hr
  obtain ⟨w1, V, hV, v0, v1, v2⟩ := sqs_all (f := fun i => subF (cs.getD i 0) (ds.getD i 0)) h2 hR n (Nat.le_refl _)
  have hn9 := cast_le9 h2
  have hw := rs_nonneg (f := fun i => R i * R i) (n := n) (fun i _ => sqr_nonneg _) n (Nat.le_refl _)
  have hk9a := Rat.mul_le_mul_of_nonneg_left hn9.2 hw
  have hinf := rootF_inf (sqsL_inf (f := fun i => subF (cs.getD i 0) (ds.getD i 0)) h2 hR n (Nat.le_refl _)) hV v0 (by grind)
  rw [show rootF (sqsL (fun i => subF (cs.getD i 0) (ds.getD i 0)) n) = farL cs ds by rw [farL, h.len]] at hinf
  have hi : S.infRung = 2139095040 := by decide +kernel
  rw [hi] at hinf
  rcases Nat.lt_or_eq_of_le hinf with h5 | h5
  · exact h5
  · exfalso
    rw [h5] at hF
    obtain ⟨s, m, p, h6, -⟩ := hF
    have : S.read 2139095040 = .infinity false := by decide +kernel
    rw [this] at h6
    cases h6

theorem Sml.th {N L : Nat} {css : List (List Nat)} (h : Sml N L css) (hN1 : 2 ≤ N) (hN : N ≤ 6) (h1 : 1 ≤ L) (hL : L ≤ 9) : TH css N (fun i k => farL (rowL css i) (rowL css k)) := by
  refine ⟨h.len, hN1, by omega, h.listOk h1 (by omega) (by omega) (by omega), fun i k hi hk => ?_, fun i k _ _ => rfl, fun i k hi hk => ?_, fun i k hi hk => ?_⟩
  · obtain ⟨X, hX⟩ := h.row i hi
    obtain ⟨Y, hY⟩ := h.row k hk
    obtain ⟨F, f1, f2, f3⟩ := hX.vl.far hY.vl hL
    rw [farQ_two (hX.two hY h1 (by omega)), numB_yes (f1.fin (by grind) f3)]
  · obtain ⟨X, hX⟩ := h.row i hi
    obtain ⟨Y, hY⟩ := h.row k hk
    exact hX.vl.far_small hY.vl hL
  · obtain ⟨X, hX⟩ := h.row i hi
    obtain ⟨Y, hY⟩ := h.row k hk
    exact far_back (by rw [hX.len, hY.len])

end Go.Proofs.Ytkkomajokdlkeaa
