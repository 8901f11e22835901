/- A trend that is shown a line follows it, and a trend that is shown nothing goes straight on. Plain. -/
import Derived.Test.YtkkomajokdlkeaaTn
import Derived.Test.YtkkomajokdlkeaaK60
import Derived.Test.YtkkomajokdlkeaaK40
namespace Go.Proofs.Ytkkomajokdlkeaa
set_option linter.unusedSimpArgs false
set_option linter.unusedVariables false
set_option maxRecDepth 100000
set_option maxHeartbeats 4000000
open Go.RowKit
set_option linter.unusedSimpArgs false
set_option linter.unusedVariables false

theorem qv_above {c : Nat} {x : Rat} (h : QV S c x) (h1 : 0 < x) (h2 : x ≤ 1000) : above c = true := by
  have e : fc .gtr .f32 c 0 = true := by
    show (S.order c 0 == some .gt) = true
    rw [h.order qv_zero, if_neg (by grind), if_neg (by grind)]; rfl
  rw [above, qv_fin h (by grind) h2, e]; rfl
/-- A trend's words. -/
structure TW (l v a b c n d t : Nat) (L V A B C N D E : Rat) : Prop where
  hl : QV S l L
  hv : QV S v V
  ha : QV S a A
  hb : QV S b B
  hc : QV S c C
  hn : QV S n N
  hd : QV S d D
  ht : QV S t E
theorem TW.ok {l v a b c n d t : Nat} {L V A B C N D E : Rat} (h : TW l v a b c n d t L V A B C N D E) (l1 : -1000 ≤ L) (l2 : L ≤ 1000) (v1 : -1000 ≤ V) (v2 : V ≤ 1000) (a1 : 0 ≤ A) (a2 : A ≤ 1000) (b1 : -1000 ≤ B) (b2 : B ≤ 1000) (c1 : 0 ≤ C) (c2 : C ≤ 1000) (n1 : 0 < N) (n2 : N ≤ 1000) (d1 : 0 ≤ D) (d2 : D ≤ 1000) (e1 : 0 ≤ E) (e2 : E ≤ 1000) : trendOk l v a b c n d t = true := by
  rw [trendOk, qv_fin h.hl l1 l2, qv_fin h.hv v1 v2, qv_least h.ha a1 a2, qv_fin h.hb b1 b2, qv_least h.hc c1 c2, qv_above h.hn n1 n2, qv_least h.hd d1 d2, qv_least h.ht e1 e2]; rfl
/-- A trend that is between bounds: q is the line's value, m its slope. -/
def StB (β : TB) (n : Int) (q m : Rat) (T : List Nat) : Prop := ∃ l v a b c k d t L V A B C, T = [l, v, a, b, c, k, d, t] ∧ TW l v a b c k d t L V A B C ((n : Rat) / 65536) (1 / 4) (1 / 4) ∧
  InB β (65536 * A) (65536 * B) (65536 * C) (65536 * (L - q)) (65536 * (V - m - (L - q) / 2))
theorem st_step {n : Int} {β δ : TB} {γ : TG} (h : tbOk n β δ γ) (hn : 16384 ≤ n) (hn2 : n ≤ 131072) {q m : Rat} {T : List Nat} {x : Nat} (hs : StB β n q m T) (hx : QV S x (q + m)) (q1 : -70 ≤ q + m) (q2 : q + m ≤ 70) (m1 : -1 ≤ m) (m2 : m ≤ 1) :
    StB δ n (q + m) m (tsL T x true).1 ∧ (tsL T x true).2.2 = true := by
  obtain ⟨l, v, a, b, c, k, d, t, L, V, A, B, C, rfl, hw, ⟨i1, i2, i3, i4, i5, i6⟩, u1, u2, t1, t2⟩ := hs
  have h' := h
  obtain ⟨⟨z1, z2, z3, z4, z5, z6, z7, z8, z9, z10, z11, z12⟩, ⟨k1, k2, k3, k4, k5, k6, k7, k8⟩, ⟨a0, a1, a2, a3, a4⟩, ⟨b1, b2, b3, b4, b5⟩, ⟨d1, d2, d3, d4, d5⟩, ⟨c0, c1, c2⟩, ⟨e1, e2, e3, e4, e5, e6, e7, e8⟩⟩ := h
  have i01 := ile z1; have i02 := ile z2; have i03 := ile z3; have i04 := ile z4; have i05 := ile z5; have i06 := ile z6; have i07 := ile z7; have i08 := ile z8; have i09 := ile z9; have i10 := ile z10; have i11 := ile z11; have i12 := ile z12
  have j01 := ile k1; have j02 := ile k2; have j03 := ile k3; have j04 := ile k4; have j05 := ile k5; have j06 := ile k6; have j07 := ile k7; have j08 := ile k8
  have l00 := ile a0; have l01 := ile a1; have l02 := ile a2; have l03 := ile a3; have l04 := ile a4
  have m01 := ile b1; have m02 := ile b2; have m03 := ile b3; have m04 := ile b4; have m05 := ile b5
  have n01 := ile d1; have n02 := ile d2; have n03 := ile d3; have n04 := ile d4; have n05 := ile d5
  have o00 := ile c0; have o01 := ile c1; have o02 := ile c2
  have p01 := ile e1; have p02 := ile e2; have p03 := ile e3; have p04 := ile e4; have p05 := ile e5; have p06 := ile e6; have p07 := ile e7; have p08 := ile e8
  have hn01 := ile hn; have hn02 := ile hn2
  simp only [Rat.intCast_add, Rat.intCast_sub, Rat.intCast_mul, Rat.intCast_neg, Rat.intCast_ofNat] at i01 i02 i03 i04 i05 i06 i07 i08 i09 i10 i11 i12 j01 j02 j03 j04 j05 j06 j07 j08 l00 l01 l02 l03 l04 m01 m02 m03 m04 m05 n01 n02 n03 n04 n05 o00 o01 o02 p01 p02 p03 p04 p05 p06 p07 p08 hn01 hn02
  clear z1 z2 z3 z4 z5 z6 z7 z8 z9 z10 z11 z12 k1 k2 k3 k4 k5 k6 k7 k8 a0 a1 a2 a3 a4 b1 b2 b3 b4 b5 d1 d2 d3 d4 d5 c0 c1 c2 e1 e2 e3 e4 e5 e6 e7 e8 hn hn2 h'
  obtain ⟨N, hN⟩ : ∃ N : Rat, N = (n : Rat) / 65536 := ⟨_, rfl⟩
  rw [← hN] at hw
  have hnN : (n : Rat) = 65536 * N := by grind
  rw [hnN] at j05 j06 j07 j08 l01 l02 l03 l04 m02 m03 m04 m05 n02 n03 n04 n05 o01 o02 hn01 hn02
  obtain ⟨K, hK⟩ : ∃ K : Rat, K * (A + 2 * B + C + 1 / 4 + N) = A + 2 * B + C + 1 / 4 := ⟨(A + 2 * B + C + 1 / 4) / (A + 2 * B + C + 1 / 4 + N), Rat.div_mul_cancel (by grind)⟩
  obtain ⟨H, hH⟩ : ∃ H : Rat, H * (A + 2 * B + C + 1 / 4 + N) = B + C := ⟨(B + C) / (A + 2 * B + C + 1 / 4 + N), Rat.div_mul_cancel (by grind)⟩
  obtain ⟨⟨g1, g2, g3, g4, g5, g6, g7, g8, g9⟩, s1, s2, s3, s4, s5, s6⟩ := tb_core i01 i02 i03 i04 i05 j01 j02 j03 j04 j05 j06 j07 j08 l01 l02 l03 l04 m01 m02 m03 m04 m05 n01 n02 n03 n04 n05 o01 o02 (by grind) i1 i2 i3 i4 i5 i6 (K := K) (H := H) (by grind) (by grind)
  have t' := tb_miss g2 g3 g4 g5 g6 g7 i09 i11 p01 p02 p03 p04 p05 p06 p07 p08 u1 u2 t1 t2
  obtain ⟨v1, v2, v3, v4⟩ := t'
  clear p01 p02 p03 p04 p05 p06 p07 p08 j05 j06 j07 j08 l01 l02 l03 l04 m01 m02 m03 m04 m05 n01 n02 n03 n04 n05 o01 o02 j01 j02 j03 j04 g2 g3 g4 g5
  have r1 : -90 ≤ q + m - L - V := by grind
  have r2 : q + m - L - V ≤ 90 := by grind
  obtain ⟨l', v', a', b', c', L', V', A', B', C', e0, y1, y2, y3, y4, y5, ⟨x1, x2⟩, ⟨x3, x4⟩, ⟨x5, x6⟩, x7, ⟨x8, x9⟩, ⟨x10, x11⟩, x12⟩ := ts_step hw.hl hw.hv hw.ha hw.hb hw.hc hw.hn hw.hd hw.ht hx hK hH (by grind) (by grind) (by grind) (by grind) (by grind) g6 g7 g8 g9 (by grind) (by grind) (by grind) (by grind) (by grind) (by grind) (by grind) (by grind) (by grind) (by grind) (by grind) (by grind) (by grind) (by grind) r1 r2 (by grind) (by grind) q1 q2
  have b1 : (δ.al : Rat) ≤ 65536 * A' := by grind
  have b2 : 65536 * A' ≤ δ.ah := by grind
  have b3 : (δ.bl : Rat) ≤ 65536 * B' := by grind
  have b4 : 65536 * B' ≤ δ.bh := by grind
  have b5 : (δ.cl : Rat) ≤ 65536 * C' := by grind
  have b6 : 65536 * C' ≤ δ.ch := by grind
  have hu : (1 - K) * (3 / 2 * (65536 * (L - q)) + 65536 * (V - m - (L - q) / 2)) = 65536 * (L + V + K * (q + m - L - V) - (q + m)) := by grind
  have ht : 65536 * (V - m - (L - q) / 2) + 65536 * (L - q) / 2 - (H + (1 - K) / 2) * (3 / 2 * (65536 * (L - q)) + 65536 * (V - m - (L - q) / 2)) = 65536 * (V + H * (q + m - L - V) - m - (L + V + K * (q + m - L - V) - (q + m)) / 2) := by grind
  rw [hu] at v1 v2
  rw [ht] at v3 v4
  clear hu ht hK hH
  have b7 : -(δ.U : Rat) ≤ 65536 * (L' - (q + m)) := by grind
  have b8 : 65536 * (L' - (q + m)) ≤ δ.U := by grind
  have b9 : -(δ.T : Rat) ≤ 65536 * (V' - m - (L' - (q + m)) / 2) := by grind
  have b10 : 65536 * (V' - m - (L' - (q + m)) / 2) ≤ δ.T := by grind
  have w1 := mul_bd (x := K) (X := 1) (y := N) (Y := 2) (by grind) g7 (by grind) (by grind)
  have w2 := mul_bd (x := 1 - K) (X := 1) (y := B + C) (Y := 9 / 4) (by grind) (by grind) (by grind) (by grind)
  have w3 := mul_bd (x := H) (X := 1) (y := B + C) (Y := 9 / 4) (by grind) g9 (by grind) (by grind)
  have w4 := mul_bd (x := K) (X := 1) (y := q + m - L - V) (Y := 90) (by grind) g7 r1 r2
  have w5 := mul_bd (x := H) (X := 1) (y := q + m - L - V) (Y := 90) (by grind) g9 r1 r2
  obtain ⟨_, f1, f2, f3⟩ := nr_add hw.hl hw.hv (Nr.refl L) (Nr.refl V) (M := 200) (by grind) (by grind) (f := 1) (by decide +kernel) (by decide +kernel)
  have hq : tsQ l v a b c k d t x true = ([l', v', a', b', c', k, d, t], addF l v, true) := by
    rw [← e0]
    refine tsQ_yes ?_
    rw [e0, hw.ok (by grind) (by grind) (by grind) (by grind) (by grind) (by grind) (by grind) (by grind) (by grind) (by grind) (by grind) (by grind) (by grind) (by grind) (by grind) (by grind), qv_fin hx (by grind) (by grind), qv_fin f1 (by grind) (by grind)]
    show (true && true && trendOk l' v' a' b' c' k d t && true) = true
    rw [(TW.mk y1 y2 y3 y4 y5 hw.hn hw.hd hw.ht).ok (by grind) (by grind) (by grind) (by grind) (by grind) (by grind) (by grind) (by grind) (by grind) (by grind) (by grind) (by grind) (by grind) (by grind) (by grind) (by grind)]; rfl
  show StB δ n (q + m) m (tsQ l v a b c k d t x true).1 ∧ (tsQ l v a b c k d t x true).2.2 = true
  rw [hq]
  exact ⟨⟨l', v', a', b', c', k, d, t, L', V', A', B', C', rfl, ⟨y1, y2, y3, y4, y5, by rw [← hN]; exact hw.hn, hw.hd, hw.ht⟩, ⟨b1, b2, b3, b4, b5, b6⟩, b7, b8, b9, b10⟩, rfl⟩
/-- Rounds between bounds. -/
theorem st_run {n : Int} (hn : 16384 ≤ n) (hn2 : n ≤ 131072) {q m : Rat} {T xs : List Nat} {ss : List Bool} (m1 : -1 ≤ m) (m2 : m ≤ 1) (q1 : -5 ≤ q) (q2 : q ≤ 5) (hx : ∀ i, i < 60 → QV S (xs.getD i 0) (q + ((i + 1 : Nat) : Rat) * m) ∧ ss.getD i false = true) :
    ∀ (k i : Nat) (β ω : TB), i + k ≤ 60 → tbRun n k β = some ω → StB β n (q + (i : Rat) * m) m (trAt T xs ss i).1 → (trAt T xs ss i).2.2 = true → StB ω n (q + ((i + k : Nat) : Rat) * m) m (trAt T xs ss (i + k)).1 ∧ (trAt T xs ss (i + k)).2.2 = true
  | 0, i, β, ω, _, hr, hs, ho => by
    have : β = ω := by simpa [tbRun] using hr
    subst this; exact ⟨hs, ho⟩
  | k + 1, i, β, ω, hk, hr, hs, ho => by
    have hr' : (if tbOk n β (tbNext n β).1 (tbNext n β).2 then tbRun n k (tbNext n β).1 else none) = some ω := hr
    by_cases hok : tbOk n β (tbNext n β).1 (tbNext n β).2
    · rw [if_pos hok] at hr'
      obtain ⟨hx1, hx2⟩ := hx i (by omega)
      have ei : q + ((i + 1 : Nat) : Rat) * m = q + (i : Rat) * m + m := by rw [Rat.natCast_add]; grind
      have hi : (i : Rat) ≤ 60 := by have : ((i : Nat) : Rat) ≤ ((60 : Nat) : Rat) := Rat.natCast_le_natCast.2 (by omega); exact this
      have hi0 : (0 : Rat) ≤ (i : Rat) := by have : ((0 : Nat) : Rat) ≤ ((i : Nat) : Rat) := Rat.natCast_le_natCast.2 (by omega); exact this
      have hm := mul_bd (x := (i : Rat)) (X := 60) (y := m) (Y := 1) (by grind) hi m1 m2
      rw [ei] at hx1
      have h1 := st_step hok hn hn2 hs hx1 (by grind) (by grind) m1 m2
      have h2 := st_run hn hn2 m1 m2 q1 q2 hx k (i + 1) (tbNext n β).1 ω (by omega) hr' (by
        rw [ei]
        show StB _ _ _ _ (tsL (trAt T xs ss i).1 (xs.getD i 0) (ss.getD i false)).1
        rw [hx2]; exact h1.1) (by
        show ((trAt T xs ss i).2.2 && (tsL (trAt T xs ss i).1 (xs.getD i 0) (ss.getD i false)).2.2) = true
        rw [hx2, ho, h1.2]; rfl)
      rw [show i + (k + 1) = i + 1 + k by omega]
      exact h2
    · rw [if_neg hok] at hr'; cases hr'
/-- Sixty rounds lead near the line. -/
theorem follow {j : Nat} (hj : j < 8) {q m : Rat} {xs : List Nat} {ss : List Bool} (m1 : -1 ≤ m) (m2 : m ≤ 1) (q1 : -5 ≤ q) (q2 : q ≤ 5) (hx : ∀ i, i < 60 → QV S (xs.getD i 0) (q + ((i + 1 : Nat) : Rat) * m) ∧ ss.getD i false = true)
    {l v a b c k d t : Nat} {L V A B C : Rat} (hw : TW l v a b c k d t L V A B C (((j : Rat) + 1) / 4) (1 / 4) (1 / 4)) (l1 : -2 ≤ L) (l2 : L ≤ 2) (v1 : -1 ≤ V) (v2 : V ≤ 1) (a1 : 1 / 2 ≤ A) (a2 : A ≤ 9 / 2) (b1 : -1 / 8 ≤ B) (b2 : B ≤ 1 / 8) (c1 : 1 / 4 ≤ C) (c2 : C ≤ 5 / 4) :
    (trAt [l, v, a, b, c, k, d, t] xs ss 60).2.2 = true ∧ ∃ l' v' a' b' c' k' d' t' L' V', (trAt [l, v, a, b, c, k, d, t] xs ss 60).1 = [l', v', a', b', c', k', d', t'] ∧ QV S l' L' ∧ QV S v' V' ∧ Nr (3 / 32) (q + 60 * m) L' ∧ Nr (3 / 64) m V' := by
  have h0 := List.all_eq_true.1 tbAll j (List.mem_range.2 hj)
  generalize hr : tbRun (16384 * ((j : Int) + 1)) 60 tb0 = o at h0
  cases o with
  | none => cases h0
  | some ω =>
    have h1 := of_decide_eq_true (show decide (ω.U ≤ 6000 ∧ ω.T + ω.U / 2 ≤ 3000) = true from h0)
    have hs : StB tb0 (16384 * ((j : Int) + 1)) (q + ((0 : Nat) : Rat) * m) m (trAt [l, v, a, b, c, k, d, t] xs ss 0).1 := by
      have e1 : (((16384 * ((j : Int) + 1) : Int)) : Rat) / 65536 = ((j : Rat) + 1) / 4 := by
        simp only [Rat.intCast_mul, Rat.intCast_add, Rat.intCast_ofNat, Rat.intCast_natCast]
        grind
      have e2 : q + ((0 : Nat) : Rat) * m = q := by
        rw [show ((0 : Nat) : Rat) = 0 from rfl]; grind
      refine ⟨l, v, a, b, c, k, d, t, L, V, A, B, C, rfl, by rw [e1]; exact hw, ?_⟩
      rw [e2]
      unfold InB tb0
      simp only [Rat.intCast_neg, Rat.intCast_ofNat]
      grind
    obtain ⟨⟨l', v', a', b', c', k', d', t', L', V', A', B', C', e, hw', -, u1, u2, t1, t2⟩, ho⟩ := st_run (by omega) (by omega) m1 m2 q1 q2 hx 60 0 tb0 ω (by omega) hr hs rfl
    refine ⟨ho, l', v', a', b', c', k', d', t', L', V', e, hw'.hl, hw'.hv, ?_⟩
    have i1 := ile h1.1
    have i2 := ile (show 2 * ω.T + ω.U ≤ 6001 by omega)
    simp only [Rat.intCast_mul, Rat.intCast_add, Rat.intCast_ofNat, Nat.zero_add] at i1 i2 u1 u2 t1 t2
    have e3 : ((60 : Nat) : Rat) = 60 := rfl
    rw [e3] at u1 u2 t1 t2
    refine ⟨⟨by grind, by grind⟩, by grind, by grind⟩
/-- What is shown nothing goes straight on. -/
theorem blind {xs : List Nat} {ss : List Bool} {n : Nat} (hn : n ≤ 8) (hx : ∀ i, i < n → fin (xs.getD i 0) = true ∧ ss.getD i false = false) {l v a b c k d t : Nat} {L V A B C N D E : Rat} (hw : TW l v a b c k d t L V A B C N D E)
    (l1 : -2 ≤ L) (l2 : L ≤ 2) (v1 : -1 ≤ V) (v2 : V ≤ 1) (a1 : 1 / 2 ≤ A) (a2 : A ≤ 9 / 2) (b1 : -1 / 8 ≤ B) (b2 : B ≤ 1 / 8) (c1 : 1 / 4 ≤ C) (c2 : C ≤ 5 / 4) (n1 : 0 < N) (n2 : N ≤ 2) (d1 : 0 ≤ D) (d2 : D ≤ 1 / 2) (e1 : 0 ≤ E) (e2 : E ≤ 1 / 4) :
    ∀ i : Nat, i ≤ n → ∃ li ai bi ci Li Ai Bi Ci es, trAt [l, v, a, b, c, k, d, t] xs ss i = ([li, v, ai, bi, ci, k, d, t], es, true) ∧ TW li v ai bi ci k d t Li V Ai Bi Ci N D E ∧ es.length = i ∧
      (∀ j, j < i → ∃ X, QV S (es.getD j 0) X ∧ Nr (1 / 4096) (L + ((j + 1 : Nat) : Rat) * V) X) ∧
      Nr ((i : Rat) / 65536) (L + (i : Rat) * V) Li ∧ -1 / 8 ≤ Bi ∧ Bi ≤ 1 / 8 + 5 * (i : Rat) ∧ 1 / 4 - (i : Rat) / 1000 ≤ Ci ∧ Ci ≤ 5 / 4 + (i : Rat) / 3 ∧ 1 / 8 ≤ Bi + Ci ∧ 3 / 8 ≤ Ai + 2 * Bi + Ci ∧ 1 / 4 ≤ Ai ∧ Ai ≤ 9 / 2 + 90 * (i : Rat)
  | 0, _ => by
    refine ⟨l, a, b, c, L, A, B, C, [], rfl, hw, rfl, fun j hj => absurd hj (by omega), ?_⟩
    rw [show ((0 : Nat) : Rat) = 0 from rfl]
    unfold Nr
    grind
  | i + 1, hi => by
    obtain ⟨li, ai, bi, ci, Li, Ai, Bi, Ci, es, e0, w, hl, hes, ⟨p1, p2⟩, q1, q2, q3, q4, q5, q6, q7, q8⟩ := blind hn hx hw l1 l2 v1 v2 a1 a2 b1 b2 c1 c2 n1 n2 d1 d2 e1 e2 i (by omega)
    obtain ⟨x1, x2⟩ := hx i (by omega)
    have hi7 : (i : Rat) ≤ 7 := by have : ((i : Nat) : Rat) ≤ ((7 : Nat) : Rat) := Rat.natCast_le_natCast.2 (by omega); exact this
    have hi0 : (0 : Rat) ≤ (i : Rat) := by have : ((0 : Nat) : Rat) ≤ ((i : Nat) : Rat) := Rat.natCast_le_natCast.2 (by omega); exact this
    have hs : ((i + 1 : Nat) : Rat) = (i : Rat) + 1 := by rw [Rat.natCast_add]; rfl
    have hm := mul_bd (x := (i : Rat)) (X := 7) (y := V) (Y := 1) (by grind) hi7 v1 v2
    obtain ⟨L', y1, z1, z2⟩ := nr_add w.hl w.hv (Nr.refl Li) (Nr.refl V) (M := 20) (by grind) (by grind) (f := 1 / 131072) (by decide +kernel) (by decide +kernel)
    obtain ⟨_, y2, z3⟩ := nr_add w.ha w.hb (Nr.refl Ai) (Nr.refl Bi) (M := 690) (by grind) (by grind) (f := 1 / 10000) (by decide +kernel) (by decide +kernel)
    obtain ⟨B', y3, z4⟩ := nr_add w.hb w.hc (Nr.refl Bi) (Nr.refl Ci) (M := 50) (by grind) (by grind) (f := 1 / 100000) (by decide +kernel) (by decide +kernel)
    obtain ⟨_, y4, z5⟩ := nr_add y2 y3 z3 z4 (M := 740) (by grind) (by grind) (f := 1 / 4000) (by decide +kernel) (by decide +kernel)
    obtain ⟨A', y5, z6, z7⟩ := nr_add y4 w.hd z5 (Nr.refl D) (M := 741) (by grind) (by grind) (f := 1 / 2000) (by decide +kernel) (by decide +kernel)
    obtain ⟨C', y6, z8, z9⟩ := nr_add w.hc w.ht (Nr.refl Ci) (Nr.refl E) (M := 10) (by grind) (by grind) (f := 1 / 100000) (by decide +kernel) (by decide +kernel)
    obtain ⟨z10, z11⟩ := z4
    have hq : tsQ li v ai bi ci k d t (xs.getD i 0) false = ([addF li v, v, tsA ai bi ci d, addF bi ci, addF ci t, k, d, t], addF li v, true) := by
      refine tsQ_yes ?_
      rw [w.ok (by grind) (by grind) (by grind) (by grind) (by grind) (by grind) (by grind) (by grind) (by grind) (by grind) (by grind) (by grind) (by grind) (by grind) (by grind) (by grind), x1, qv_fin y1 (by grind) (by grind)]
      show (true && true && trendOk (addF li v) v (tsA ai bi ci d) (addF bi ci) (addF ci t) k d t && true) = true
      rw [(show TW (addF li v) v (tsA ai bi ci d) (addF bi ci) (addF ci t) k d t L' V A' B' C' N D E from TW.mk y1 w.hv y5 y3 y6 w.hn w.hd w.ht).ok (by grind) (by grind) (by grind) (by grind) (by grind) (by grind) (by grind) (by grind) (by grind) (by grind) (by grind) (by grind) (by grind) (by grind) (by grind) (by grind)]; rfl
    refine ⟨addF li v, tsA ai bi ci d, addF bi ci, addF ci t, L', A', B', C', es ++ [addF li v], ?_, ⟨y1, w.hv, y5, y3, y6, w.hn, w.hd, w.ht⟩, by simp [hl], ?_, ?_⟩
    · show ((tsL (trAt _ xs ss i).1 (xs.getD i 0) (ss.getD i false)).1, (trAt _ xs ss i).2.1 ++ [(tsL (trAt _ xs ss i).1 (xs.getD i 0) (ss.getD i false)).2.1], (trAt _ xs ss i).2.2 && (tsL (trAt _ xs ss i).1 (xs.getD i 0) (ss.getD i false)).2.2) = _
      rw [e0, x2]
      show ((tsQ li v ai bi ci k d t (xs.getD i 0) false).1, es ++ [(tsQ li v ai bi ci k d t (xs.getD i 0) false).2.1], true && (tsQ li v ai bi ci k d t (xs.getD i 0) false).2.2) = _
      rw [hq]; rfl
    · intro j hj
      by_cases h : j < i
      · obtain ⟨X, h1, h2⟩ := hes j h
        refine ⟨X, ?_, h2⟩
        have : (es ++ [addF li v]).getD j 0 = es.getD j 0 := by simp [List.getD_eq_getElem?_getD, List.getElem?_append_left (show j < es.length by omega)]
        rw [this]; exact h1
      · obtain rfl : j = i := by omega
        refine ⟨L', ?_, ?_⟩
        · have : (es ++ [addF li v]).getD j 0 = addF li v := by simp [List.getD_eq_getElem?_getD, ← hl]
          rw [this]; exact y1
        · rw [hs]; constructor <;> grind
    · rw [hs]
      unfold Nr
      clear hq w y1 y2 y3 y4 y5 y6 hes hx e0 hn
      refine ⟨⟨by grind, by grind⟩, by grind, by grind, by grind, by grind, by grind, by grind, by grind, by grind⟩
theorem gap_qv {a b : Nat} {x y e : Rat} (ha : QV D a x) (hb : QV D b y) (x1 : -1000 ≤ x) (x2 : x ≤ 1000) (h : Nr e x y) (he : e ≤ 1) : ∃ z, QV D (gapF a b) z ∧ z ≤ e + 1 / 1000000 := by
  obtain ⟨h1, h2⟩ := h
  have e1 : fc .lss .f64 a b = decide (x < y) := by
    show (D.order a b == some .lt) = _
    rw [ha.order hb]
    by_cases hx : x < y
    · rw [if_pos hx, decide_eq_true hx]; rfl
    · rw [if_neg hx, decide_eq_false hx]; split <;> rfl
  unfold gapF
  rw [e1]
  by_cases hx : x < y
  · rw [decide_eq_true hx, if_pos rfl]
    obtain ⟨z, hz, hn⟩ := subD_qv hb ha (by unfold big; grind) (by unfold big; grind)
    have := hn.2.2 1 (by grind) (by grind)
    exact ⟨z, hz, by grind⟩
  · rw [decide_eq_false hx, if_neg (by decide)]
    obtain ⟨z, hz, hn⟩ := subD_qv ha hb (by unfold big; grind) (by unfold big; grind)
    have := hn.2.2 1 (by grind) (by grind)
    exact ⟨z, hz, by grind⟩
theorem wd_nr {a : Nat} {x x' e f : Rat} (ha : QV S a x') (h : Nr e x x') (x1 : -999 ≤ x) (x2 : x ≤ 999) (he : e ≤ 1) (hf : e + 1 / 1000000 ≤ f) : ∃ z, QV D (wd a) z ∧ Nr f x z := by
  obtain ⟨h1, h2⟩ := h
  obtain ⟨z, hz, hn⟩ := wd_qv ha (by unfold big; grind) (by unfold big; grind)
  have := hn.2.2 1000 (by grind) (by grind)
  exact ⟨z, hz, by constructor <;> grind⟩
theorem gtrD_qv {a b : Nat} {x y : Rat} (ha : QV D a x) (hb : QV D b y) : fc .gtr .f64 a b = decide (y < x) := by
  show (D.order a b == some .gt) = _
  rw [ha.order hb]
  by_cases hx : x < y
  · rw [if_pos hx, decide_eq_false (by grind)]; rfl
  · rw [if_neg hx]
    by_cases hy : x = y
    · rw [if_pos hy, decide_eq_false (by grind)]; rfl
    · rw [if_neg hy, decide_eq_true (by grind)]; rfl
theorem lssD_qv {a b : Nat} {x y : Rat} (ha : QV D a x) (hb : QV D b y) : fc .lss .f64 a b = decide (x < y) := by
  show (D.order a b == some .lt) = _
  rw [ha.order hb]
  by_cases hx : x < y
  · rw [if_pos hx, decide_eq_true hx]; rfl
  · rw [if_neg hx, decide_eq_false hx]; split <;> rfl

end Go.Proofs.Ytkkomajokdlkeaa
