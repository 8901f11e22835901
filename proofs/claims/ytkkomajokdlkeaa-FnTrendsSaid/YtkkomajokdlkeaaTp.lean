/- Contracts: a trend that the laws draw, in fractions. -/
import Derived.Test.YtkkomajokdlkeaaK80
import Derived.Test.YtkkomajokdlkeaaBk2
import Derived.Test.YtkkomajokdlkeaaTl
import Derived.Test.YtkkomajokdlkeaaFs
namespace Go.Proofs.Ytkkomajokdlkeaa
set_option linter.unusedSimpArgs false
set_option linter.unusedVariables false
set_option maxRecDepth 100000
set_option maxHeartbeats 4000000
set_option linter.unusedSimpArgs false
set_option linter.unusedVariables false
open Go.RowKit
attribute [local go_sem] run_store_float run_store_complex alloc_drewN setCell_drewN

def qvB (c : Nat) (x : Rat) : Bool := match S.read c with
  | .number s m p => decide (x = sg s ((m : Rat) * pw p))
  | _ => false
theorem qv_of_B {c : Nat} {x : Rat} (h : qvB c x = true) : QV S c x := by
  unfold qvB at h
  split at h
  · rename_i s m p e
    exact ⟨s, m, p, e, of_decide_eq_true h⟩
  · cases h
/-- A quotient of an integer that a law draws. -/
def qf (z : Int) (c : Nat) : Nat := divF (cn .f32 (floatOfInt .f32 z)) (cn .f32 c)
theorem raw_qv {r c : Nat} {x : Rat} (h : cn .f32 r = c) (hc : QV S c x) (h1 : -1000 ≤ x) (h2 : x ≤ 1000) : QV S r x := by
  rw [(raw_of h (qv_fin hc h1 h2)).1]; exact hc

theorem lev_all : ((List.range 17).all fun x => qvB (qf ((x : Int) - 8) 1082130432) (((x : Rat) - 8) / 4)) = true := by decide +kernel
theorem lev_qv {x r : Nat} (hx : x < 17) (h : cn .f32 r = qf ((x : Int) - 8) 1082130432) : QV S r (((x : Rat) - 8) / 4) := by
  have i1 : (x : Rat) ≤ 100 := by have : ((x : Nat) : Rat) ≤ ((100 : Nat) : Rat) := Rat.natCast_le_natCast.2 (by omega); exact this
  have i2 : (0 : Rat) ≤ (x : Rat) := by have : ((0 : Nat) : Rat) ≤ ((x : Nat) : Rat) := Rat.natCast_le_natCast.2 (by omega); exact this
  exact raw_qv h (qv_of_B (List.all_eq_true.1 lev_all x (List.mem_range.2 hx))) (by grind) (by grind)
theorem slo_all : ((List.range 9).all fun x => qvB (qf ((x : Int) - 4) 1082130432) (((x : Rat) - 4) / 4)) = true := by decide +kernel
theorem slo_qv {x r : Nat} (hx : x < 9) (h : cn .f32 r = qf ((x : Int) - 4) 1082130432) : QV S r (((x : Rat) - 4) / 4) := by
  have i1 : (x : Rat) ≤ 100 := by have : ((x : Nat) : Rat) ≤ ((100 : Nat) : Rat) := Rat.natCast_le_natCast.2 (by omega); exact this
  have i2 : (0 : Rat) ≤ (x : Rat) := by have : ((0 : Nat) : Rat) ≤ ((x : Nat) : Rat) := Rat.natCast_le_natCast.2 (by omega); exact this
  exact raw_qv h (qv_of_B (List.all_eq_true.1 slo_all x (List.mem_range.2 hx))) (by grind) (by grind)
theorem dA_all : ((List.range 9).all fun x => qvB (qf ((x : Int)) 1073741824) (((x : Rat)) / 2)) = true := by decide +kernel
theorem dA_qv {x r : Nat} (hx : x < 9) (h : cn .f32 r = qf ((x : Int)) 1073741824) : QV S r (((x : Rat)) / 2) := by
  have i1 : (x : Rat) ≤ 100 := by have : ((x : Nat) : Rat) ≤ ((100 : Nat) : Rat) := Rat.natCast_le_natCast.2 (by omega); exact this
  have i2 : (0 : Rat) ≤ (x : Rat) := by have : ((0 : Nat) : Rat) ≤ ((x : Nat) : Rat) := Rat.natCast_le_natCast.2 (by omega); exact this
  exact raw_qv h (qv_of_B (List.all_eq_true.1 dA_all x (List.mem_range.2 hx))) (by grind) (by grind)
theorem dC_all : ((List.range 5).all fun x => qvB (qf ((x : Int)) 1082130432) (((x : Rat)) / 4)) = true := by decide +kernel
theorem dC_qv {x r : Nat} (hx : x < 5) (h : cn .f32 r = qf ((x : Int)) 1082130432) : QV S r (((x : Rat)) / 4) := by
  have i1 : (x : Rat) ≤ 100 := by have : ((x : Nat) : Rat) ≤ ((100 : Nat) : Rat) := Rat.natCast_le_natCast.2 (by omega); exact this
  have i2 : (0 : Rat) ≤ (x : Rat) := by have : ((0 : Nat) : Rat) ≤ ((x : Nat) : Rat) := Rat.natCast_le_natCast.2 (by omega); exact this
  exact raw_qv h (qv_of_B (List.all_eq_true.1 dC_all x (List.mem_range.2 hx))) (by grind) (by grind)
theorem dB_all : ((List.range 3).all fun x => qvB (qf ((x : Int) - 1) 1090519040) (((x : Rat) - 1) / 8)) = true := by decide +kernel
theorem dB_qv {x r : Nat} (hx : x < 3) (h : cn .f32 r = qf ((x : Int) - 1) 1090519040) : QV S r (((x : Rat) - 1) / 8) := by
  have i1 : (x : Rat) ≤ 100 := by have : ((x : Nat) : Rat) ≤ ((100 : Nat) : Rat) := Rat.natCast_le_natCast.2 (by omega); exact this
  have i2 : (0 : Rat) ≤ (x : Rat) := by have : ((0 : Nat) : Rat) ≤ ((x : Nat) : Rat) := Rat.natCast_le_natCast.2 (by omega); exact this
  exact raw_qv h (qv_of_B (List.all_eq_true.1 dB_all x (List.mem_range.2 hx))) (by grind) (by grind)
theorem noi_all : ((List.range 8).all fun x => qvB (qf ((x : Int) + 1) 1082130432) (((x : Rat) + 1) / 4)) = true := by decide +kernel
theorem noi_qv {x r : Nat} (hx : x < 8) (h : cn .f32 r = qf ((x : Int) + 1) 1082130432) : QV S r (((x : Rat) + 1) / 4) := by
  have i1 : (x : Rat) ≤ 100 := by have : ((x : Nat) : Rat) ≤ ((100 : Nat) : Rat) := Rat.natCast_le_natCast.2 (by omega); exact this
  have i2 : (0 : Rat) ≤ (x : Rat) := by have : ((0 : Nat) : Rat) ≤ ((x : Nat) : Rat) := Rat.natCast_le_natCast.2 (by omega); exact this
  exact raw_qv h (qv_of_B (List.all_eq_true.1 noi_all x (List.mem_range.2 hx))) (by grind) (by grind)
theorem dri_all : ((List.range 5).all fun x => qvB (qf ((x : Int)) 1090519040) (((x : Rat)) / 8)) = true := by decide +kernel
theorem dri_qv {x r : Nat} (hx : x < 5) (h : cn .f32 r = qf ((x : Int)) 1090519040) : QV S r (((x : Rat)) / 8) := by
  have i1 : (x : Rat) ≤ 100 := by have : ((x : Nat) : Rat) ≤ ((100 : Nat) : Rat) := Rat.natCast_le_natCast.2 (by omega); exact this
  have i2 : (0 : Rat) ≤ (x : Rat) := by have : ((0 : Nat) : Rat) ≤ ((x : Nat) : Rat) := Rat.natCast_le_natCast.2 (by omega); exact this
  exact raw_qv h (qv_of_B (List.all_eq_true.1 dri_all x (List.mem_range.2 hx))) (by grind) (by grind)
theorem tur_all : ((List.range 5).all fun x => qvB (qf ((x : Int)) 1098907648) (((x : Rat)) / 16)) = true := by decide +kernel
theorem tur_qv {x r : Nat} (hx : x < 5) (h : cn .f32 r = qf ((x : Int)) 1098907648) : QV S r (((x : Rat)) / 16) := by
  have i1 : (x : Rat) ≤ 100 := by have : ((x : Nat) : Rat) ≤ ((100 : Nat) : Rat) := Rat.natCast_le_natCast.2 (by omega); exact this
  have i2 : (0 : Rat) ≤ (x : Rat) := by have : ((0 : Nat) : Rat) ≤ ((x : Nat) : Rat) := Rat.natCast_le_natCast.2 (by omega); exact this
  exact raw_qv h (qv_of_B (List.all_eq_true.1 tur_all x (List.mem_range.2 hx))) (by grind) (by grind)
theorem dA_more : ((List.range 9).all fun x => qvB (addF (qf (x : Int) 1073741824) 1056964608) (((x : Rat) + 1) / 2)) = true := by decide +kernel
theorem dA_add {x r : Nat} (hx : x < 9) (h : cn .f32 r = qf (x : Int) 1073741824) : QV S (addF r 1056964608) (((x : Rat) + 1) / 2) ∧ cn .f32 r = r := by
  have i1 : (x : Rat) ≤ 100 := by have : ((x : Nat) : Rat) ≤ ((100 : Nat) : Rat) := Rat.natCast_le_natCast.2 (by omega); exact this
  have i2 : (0 : Rat) ≤ (x : Rat) := by have : ((0 : Nat) : Rat) ≤ ((x : Nat) : Rat) := Rat.natCast_le_natCast.2 (by omega); exact this
  obtain ⟨e1, e2⟩ := raw_of h (qv_fin (qv_of_B (List.all_eq_true.1 dA_all x (List.mem_range.2 hx))) (by grind) (by grind))
  refine ⟨?_, cn_of_not e2⟩
  rw [e1]
  exact qv_of_B (List.all_eq_true.1 dA_more x (List.mem_range.2 hx))
theorem dC_more : ((List.range 5).all fun x => qvB (addF (qf (x : Int) 1082130432) 1048576000) (((x : Rat) + 1) / 4)) = true := by decide +kernel
theorem dC_add {x r : Nat} (hx : x < 5) (h : cn .f32 r = qf (x : Int) 1082130432) : QV S (addF r 1048576000) (((x : Rat) + 1) / 4) ∧ cn .f32 r = r := by
  have i1 : (x : Rat) ≤ 100 := by have : ((x : Nat) : Rat) ≤ ((100 : Nat) : Rat) := Rat.natCast_le_natCast.2 (by omega); exact this
  have i2 : (0 : Rat) ≤ (x : Rat) := by have : ((0 : Nat) : Rat) ≤ ((x : Nat) : Rat) := Rat.natCast_le_natCast.2 (by omega); exact this
  obtain ⟨e1, e2⟩ := raw_of h (qv_fin (qv_of_B (List.all_eq_true.1 dC_all x (List.mem_range.2 hx))) (by grind) (by grind))
  refine ⟨?_, cn_of_not e2⟩
  rw [e1]
  exact qv_of_B (List.all_eq_true.1 dC_more x (List.mem_range.2 hx))
/-- What is drawn. -/
structure DT (l v a b c n d t : Nat) (j : Nat) (L V A B C D E : Rat) : Prop where
  hl : QV S l L
  hv : QV S v V
  ha : QV S (addF a 1056964608) A ∧ cn .f32 a = a
  hb : QV S b B
  hc : QV S (addF c 1048576000) C ∧ cn .f32 c = c
  hn : QV S n (((j : Rat) + 1) / 4)
  hd : QV S d D
  ht : QV S t E
  hj : j < 8
  bl : -2 ≤ L ∧ L ≤ 2
  bv : -1 ≤ V ∧ V ≤ 1
  ba : 1 / 2 ≤ A ∧ A ≤ 9 / 2
  bb : -1 / 8 ≤ B ∧ B ≤ 1 / 8
  bc : 1 / 4 ≤ C ∧ C ≤ 5 / 4
  bd : 0 ≤ D ∧ D ≤ 1 / 2
  bt : 0 ≤ E ∧ E ≤ 1 / 4
theorem rb {x n : Nat} (h : x < n + 1) : (0 : Rat) ≤ (x : Rat) ∧ (x : Rat) ≤ (n : Rat) := ⟨by have : ((0 : Nat) : Rat) ≤ ((x : Nat) : Rat) := Rat.natCast_le_natCast.2 (by omega); exact this, Rat.natCast_le_natCast.2 (by omega)⟩

theorem storeTrD (p j a b c d e f g h : Nat) : ∀ w, (Instr.storeAt 47 (.pointer (some ⟨p, j, none⟩)) (.agg [.float .f32 a, .float .f32 b, .float .f32 c, .float .f32 d, .float .f32 e, .float .f32 f, .float .f32 g, .float .f32 h].toArray)).run Try.prog w = (storeCells ⟨p, j, none⟩ [.float .f32 a, .float .f32 b, .float .f32 c, .float .f32 d, .float .f32 e, .float .f32 f, .float .f32 g, .float .f32 h] 0).run Try.prog w := by intro w; go_simp
theorem store32D (p j r : Nat) : ∀ w, (Instr.storeAt 33 (.pointer (some ⟨p, j, none⟩)) (.float .f32 r)).run Try.prog w = (store ⟨p, j, none⟩ (.float .f32 r) .plain).run Try.prog w := by intro w; go_simp
set_option maxRecDepth 100000 in
theorem s_l05DrawTrendOk (w0 : World) (p : Nat) (u : Value) (cs : List Int) (k : Nat) (hk : k < 1000000) (w : World) (hu : GL (Value.int .u8) w0 u cs) (hcs : allU8 cs) (hb : Below w0.heap.size w0 w) (hp : w0.heap.size ≤ p) (hs : SR w p u k) (hpw : p < w.heap.size) :
    Calls Try.prog 77 #[.pointer (some ⟨p, 0, none⟩)] w fun e w' => (∃ l v a b c n d t j L V A B C D E, e = .returned (.agg #[.float .f32 l, .float .f32 v, .float .f32 a, .float .f32 b, .float .f32 c, .float .f32 n, .float .f32 d, .float .f32 t]) ∧ (l < 4294967296 ∧ v < 4294967296 ∧ a < 4294967296 ∧ b < 4294967296 ∧ c < 4294967296 ∧ n < 4294967296 ∧ d < 4294967296 ∧ t < 4294967296) ∧ DT l v a b c n d t j L V A B C D E) ∧ SR w' p u (k + 8) ∧ w.grownBy w' (some p) := by
  have HU := Lib.hid hu
  have HCS := Lib.hid hcs
  have HS := Lib.hid hs
  have HB := Lib.hid hb
  clear hu hcs hs hb
  have hz0 := HB.out.size
  obtain ⟨w1, hw1⟩ : ∃ w1, w1 = w.alloc (.cells (List.toArray [.float .f32 0, .float .f32 0, .float .f32 0, .float .f32 0, .float .f32 0, .float .f32 0, .float .f32 0, .float .f32 0]) 47) := ⟨_, rfl⟩
  have HE1 := Lib.hid (show BK w1 w.heap.size [.float .f32 0, .float .f32 0, .float .f32 0, .float .f32 0, .float .f32 0, .float .f32 0, .float .f32 0, .float .f32 0] by rw [hw1]; exact BK.new w _ _)
  have HG1 := Lib.hid (show w.grownBy w1 (some p) by rw [hw1]; exact World.grownBy_alloc _ _ _)
  have HS1 := Lib.hid (show SR w1 p u k by rw [hw1]; exact SR.alloc80 HS.out _)
  have hz1 : w.heap.size + 1 ≤ w1.heap.size := by rw [hw1]; simp
  have HW1 := Lib.hid hw1
  clear hw1
  go_enter Try.func77, Try.ntmps77
  go_wp2_with fail
  rw [← HW1.out]
  clear HW1
  refine (s_pick w0 p u cs (k + 0) 17 (by omega) (by omega) (by omega) _ HU.out HCS.out (HB.out.grown HG1.out HB.out.size (by intro g e; injection e with e; omega)) hp HS1.out).mono ?_
  rintro z w2 ⟨⟨x0, hx0, rfl⟩, hs1, hg1⟩
  have HS2 := Lib.hid hs1
  have HG2 := Lib.hid (grown_trans HG1.out hg1)
  have HE2 := Lib.hid (HE1.out.grown80 hg1 (by intro e; injection e with e; omega))
  have hz2 := hg1.size
  clear hs1 hg1
  obtain ⟨sd0, hsb⟩ := HS2.out
  have HB2 := Lib.hid hsb
  clear hsb
  have t1 : IntKind.i64.wrap ((x0 : Int) - 8) = (x0 : Int) - 8 := by rw [IntKind.wrap_i64]; omega
  go_wp2_with (first | (refine wpList_ar .f32 _ _ rfl rfl rfl ?_; intro r n hr hlt) | (refine wpList_fc .f32 _ _ rfl rfl rfl ?_) | (refine wpList_fc_g rfl .f32 _ _ rfl rfl rfl ?_) | (refine wpList_ar_g rfl .f32 _ _ rfl rfl rfl ?_; intro r n hr hlt) | (refine wpList_storeAgg (us := [.float .f32 r, .float .f32 0, .float .f32 0, .float .f32 0, .float .f32 0, .float .f32 0, .float .f32 0, .float .f32 0]) (storeTrD _ _ _ _ _ _ _ _ _ _) rfl rfl (by simp [Value.oneCell']) (by first | exact BK.new _ _ _ | exact BK.drewN (BK.new _ _ _) _) (by simp) ?_; intro w3 hB hO hL hZ hG; have HT3 := Lib.hid hB; have HB3 := Lib.hid (hO _ _ (by first | exact BK.alloc HB2.out _ | exact BK.drewN (BK.alloc HB2.out _) _ | exact BK.alloc (BK.drewN HB2.out _) _) (by omega)); have HE3 := Lib.hid (hO _ _ (by first | exact BK.alloc HE2.out _ | exact BK.drewN (BK.alloc HE2.out _) _ | exact BK.alloc (BK.drewN HE2.out _) _) (by omega)); have HG3 := Lib.hid (grown_app (grown_trans HG2.out (by first | exact World.grownBy_alloc _ _ _ | exact grown_drewN80 (World.grownBy_alloc _ _ _) _)) hG (fun g e => by injection e with e; omega)); have HR0 := Lib.hid hr; have HL0 := Lib.hid hlt; (try simp only [World.size_alloc, World.heap_drewN] at hZ); have hz3 := hZ; clear hB hO hL hZ hG hr hlt; obtain ⟨r0, hr0⟩ : ∃ q, q = r := ⟨_, rfl⟩; subst hr0; simp [setsAt] at HT3))
  have HS3 := Lib.hid (show SR w3 p u (k + 1) from ⟨sd0, by have h := HB3.out; exact h⟩)
  refine (s_pick w0 p u cs (k + 1) 9 (by omega) (by omega) (by omega) _ HU.out HCS.out (HB.out.grown HG3.out HB.out.size (by intro g e; injection e with e; omega)) hp HS3.out).mono ?_
  rintro z w4 ⟨⟨x1, hx1, rfl⟩, hs1, hg1⟩
  have HS4 := Lib.hid hs1
  have HG4 := Lib.hid (grown_trans HG3.out hg1)
  have HE4 := Lib.hid (HE3.out.grown80 hg1 (by intro e; injection e with e; omega))
  have HT4 := Lib.hid (HT3.out.grown80 hg1 (by intro e; injection e with e; omega))
  have hz4 := hg1.size
  clear hs1 hg1
  obtain ⟨sd1, hsb⟩ := HS4.out
  have HB4 := Lib.hid hsb
  clear hsb
  have t1 : IntKind.i64.wrap ((x1 : Int) - 4) = (x1 : Int) - 4 := by rw [IntKind.wrap_i64]; omega
  go_wp2_with (first | (refine wpList_ar .f32 _ _ rfl rfl rfl ?_; intro r n hr hlt) | (refine wpList_fc .f32 _ _ rfl rfl rfl ?_) | (refine wpList_fc_g rfl .f32 _ _ rfl rfl rfl ?_) | (refine wpList_ar_g rfl .f32 _ _ rfl rfl rfl ?_; intro r n hr hlt) | (refine wpList_storeBK3 (store32D _ _ _) rfl rfl rfl (by first | exact HT4.out | exact BK.drewN HT4.out _) (by simp) ?_; intro w5 hB hO hL hZ hG; have HT5 := Lib.hid hB; have HB5 := Lib.hid (hO _ _ (by first | exact HB4.out | exact BK.drewN HB4.out _) (by omega)); have HE5 := Lib.hid (hO _ _ (by first | exact HE4.out | exact BK.drewN HE4.out _) (by omega)); have HG5 := Lib.hid (grown_app (grown_trans HG4.out (by first | exact World.grownBy.refl _ _ | exact grown_drewN80 (World.grownBy.refl _ _) _)) hG (fun g e => by injection e with e; omega)); have HR1 := Lib.hid hr; have HL1 := Lib.hid hlt; (try simp only [World.size_alloc, World.heap_drewN] at hZ); have hz5 := hZ; clear hB hO hL hZ hG hr hlt; obtain ⟨r1, hr1⟩ : ∃ q, q = r := ⟨_, rfl⟩; subst hr1; simp [setsAt] at HT5))
  have HS5 := Lib.hid (show SR w5 p u (k + 2) from ⟨sd1, by have h := HB5.out; exact h⟩)
  refine (s_pick w0 p u cs (k + 2) 9 (by omega) (by omega) (by omega) _ HU.out HCS.out (HB.out.grown HG5.out HB.out.size (by intro g e; injection e with e; omega)) hp HS5.out).mono ?_
  rintro z w6 ⟨⟨x2, hx2, rfl⟩, hs1, hg1⟩
  have HS6 := Lib.hid hs1
  have HG6 := Lib.hid (grown_trans HG5.out hg1)
  have HE6 := Lib.hid (HE5.out.grown80 hg1 (by intro e; injection e with e; omega))
  have HT6 := Lib.hid (HT5.out.grown80 hg1 (by intro e; injection e with e; omega))
  have hz6 := hg1.size
  clear hs1 hg1
  obtain ⟨sd2, hsb⟩ := HS6.out
  have HB6 := Lib.hid hsb
  clear hsb
  go_wp2_with (first | (refine wpList_ar .f32 _ _ rfl rfl rfl ?_; intro r n hr hlt) | (refine wpList_fc .f32 _ _ rfl rfl rfl ?_) | (refine wpList_fc_g rfl .f32 _ _ rfl rfl rfl ?_) | (refine wpList_ar_g rfl .f32 _ _ rfl rfl rfl ?_; intro r n hr hlt) | (refine wpList_storeBK3 (store32D _ _ _) rfl rfl rfl (by first | exact HT6.out | exact BK.drewN HT6.out _) (by simp) ?_; intro w7 hB hO hL hZ hG; have HT7 := Lib.hid hB; have HB7 := Lib.hid (hO _ _ (by first | exact HB6.out | exact BK.drewN HB6.out _) (by omega)); have HE7 := Lib.hid (hO _ _ (by first | exact HE6.out | exact BK.drewN HE6.out _) (by omega)); have HG7 := Lib.hid (grown_app (grown_trans HG6.out (by first | exact World.grownBy.refl _ _ | exact grown_drewN80 (World.grownBy.refl _ _) _)) hG (fun g e => by injection e with e; omega)); have HR2 := Lib.hid hr; have HL2 := Lib.hid hlt; (try simp only [World.size_alloc, World.heap_drewN] at hZ); have hz7 := hZ; clear hB hO hL hZ hG hr hlt; obtain ⟨r2, hr2⟩ : ∃ q, q = r := ⟨_, rfl⟩; subst hr2; simp [setsAt] at HT7))
  have HS7 := Lib.hid (show SR w7 p u (k + 3) from ⟨sd2, by have h := HB7.out; exact h⟩)
  refine (s_pick w0 p u cs (k + 3) 5 (by omega) (by omega) (by omega) _ HU.out HCS.out (HB.out.grown HG7.out HB.out.size (by intro g e; injection e with e; omega)) hp HS7.out).mono ?_
  rintro z w8 ⟨⟨x3, hx3, rfl⟩, hs1, hg1⟩
  have HS8 := Lib.hid hs1
  have HG8 := Lib.hid (grown_trans HG7.out hg1)
  have HE8 := Lib.hid (HE7.out.grown80 hg1 (by intro e; injection e with e; omega))
  have HT8 := Lib.hid (HT7.out.grown80 hg1 (by intro e; injection e with e; omega))
  have hz8 := hg1.size
  clear hs1 hg1
  obtain ⟨sd3, hsb⟩ := HS8.out
  have HB8 := Lib.hid hsb
  clear hsb
  go_wp2_with (first | (refine wpList_ar .f32 _ _ rfl rfl rfl ?_; intro r n hr hlt) | (refine wpList_fc .f32 _ _ rfl rfl rfl ?_) | (refine wpList_fc_g rfl .f32 _ _ rfl rfl rfl ?_) | (refine wpList_ar_g rfl .f32 _ _ rfl rfl rfl ?_; intro r n hr hlt) | (refine wpList_storeBK3 (store32D _ _ _) rfl rfl rfl (by first | exact HT8.out | exact BK.drewN HT8.out _) (by simp) ?_; intro w9 hB hO hL hZ hG; have HT9 := Lib.hid hB; have HB9 := Lib.hid (hO _ _ (by first | exact HB8.out | exact BK.drewN HB8.out _) (by omega)); have HE9 := Lib.hid (hO _ _ (by first | exact HE8.out | exact BK.drewN HE8.out _) (by omega)); have HG9 := Lib.hid (grown_app (grown_trans HG8.out (by first | exact World.grownBy.refl _ _ | exact grown_drewN80 (World.grownBy.refl _ _) _)) hG (fun g e => by injection e with e; omega)); have HR3 := Lib.hid hr; have HL3 := Lib.hid hlt; (try simp only [World.size_alloc, World.heap_drewN] at hZ); have hz9 := hZ; clear hB hO hL hZ hG hr hlt; obtain ⟨r3, hr3⟩ : ∃ q, q = r := ⟨_, rfl⟩; subst hr3; simp [setsAt] at HT9))
  have HS9 := Lib.hid (show SR w9 p u (k + 4) from ⟨sd3, by have h := HB9.out; exact h⟩)
  refine (s_pick w0 p u cs (k + 4) 3 (by omega) (by omega) (by omega) _ HU.out HCS.out (HB.out.grown HG9.out HB.out.size (by intro g e; injection e with e; omega)) hp HS9.out).mono ?_
  rintro z w10 ⟨⟨x4, hx4, rfl⟩, hs1, hg1⟩
  have HS10 := Lib.hid hs1
  have HG10 := Lib.hid (grown_trans HG9.out hg1)
  have HE10 := Lib.hid (HE9.out.grown80 hg1 (by intro e; injection e with e; omega))
  have HT10 := Lib.hid (HT9.out.grown80 hg1 (by intro e; injection e with e; omega))
  have hz10 := hg1.size
  clear hs1 hg1
  obtain ⟨sd4, hsb⟩ := HS10.out
  have HB10 := Lib.hid hsb
  clear hsb
  have t1 : IntKind.i64.wrap ((x4 : Int) - 1) = (x4 : Int) - 1 := by rw [IntKind.wrap_i64]; omega
  go_wp2_with (first | (refine wpList_ar .f32 _ _ rfl rfl rfl ?_; intro r n hr hlt) | (refine wpList_fc .f32 _ _ rfl rfl rfl ?_) | (refine wpList_fc_g rfl .f32 _ _ rfl rfl rfl ?_) | (refine wpList_ar_g rfl .f32 _ _ rfl rfl rfl ?_; intro r n hr hlt) | (refine wpList_storeBK3 (store32D _ _ _) rfl rfl rfl (by first | exact HT10.out | exact BK.drewN HT10.out _) (by simp) ?_; intro w11 hB hO hL hZ hG; have HT11 := Lib.hid hB; have HB11 := Lib.hid (hO _ _ (by first | exact HB10.out | exact BK.drewN HB10.out _) (by omega)); have HE11 := Lib.hid (hO _ _ (by first | exact HE10.out | exact BK.drewN HE10.out _) (by omega)); have HG11 := Lib.hid (grown_app (grown_trans HG10.out (by first | exact World.grownBy.refl _ _ | exact grown_drewN80 (World.grownBy.refl _ _) _)) hG (fun g e => by injection e with e; omega)); have HR4 := Lib.hid hr; have HL4 := Lib.hid hlt; (try simp only [World.size_alloc, World.heap_drewN] at hZ); have hz11 := hZ; clear hB hO hL hZ hG hr hlt; obtain ⟨r4, hr4⟩ : ∃ q, q = r := ⟨_, rfl⟩; subst hr4; simp [setsAt] at HT11))
  have HS11 := Lib.hid (show SR w11 p u (k + 5) from ⟨sd4, by have h := HB11.out; exact h⟩)
  refine (s_pick w0 p u cs (k + 5) 8 (by omega) (by omega) (by omega) _ HU.out HCS.out (HB.out.grown HG11.out HB.out.size (by intro g e; injection e with e; omega)) hp HS11.out).mono ?_
  rintro z w12 ⟨⟨x5, hx5, rfl⟩, hs1, hg1⟩
  have HS12 := Lib.hid hs1
  have HG12 := Lib.hid (grown_trans HG11.out hg1)
  have HE12 := Lib.hid (HE11.out.grown80 hg1 (by intro e; injection e with e; omega))
  have HT12 := Lib.hid (HT11.out.grown80 hg1 (by intro e; injection e with e; omega))
  have hz12 := hg1.size
  clear hs1 hg1
  obtain ⟨sd5, hsb⟩ := HS12.out
  have HB12 := Lib.hid hsb
  clear hsb
  have t1 : IntKind.i64.wrap ((1 : Int) + (x5 : Int)) = (x5 : Int) + 1 := by rw [IntKind.wrap_i64]; omega
  go_wp2_with (first | (refine wpList_ar .f32 _ _ rfl rfl rfl ?_; intro r n hr hlt) | (refine wpList_fc .f32 _ _ rfl rfl rfl ?_) | (refine wpList_fc_g rfl .f32 _ _ rfl rfl rfl ?_) | (refine wpList_ar_g rfl .f32 _ _ rfl rfl rfl ?_; intro r n hr hlt) | (refine wpList_storeBK3 (store32D _ _ _) rfl rfl rfl (by first | exact HT12.out | exact BK.drewN HT12.out _) (by simp) ?_; intro w13 hB hO hL hZ hG; have HT13 := Lib.hid hB; have HB13 := Lib.hid (hO _ _ (by first | exact HB12.out | exact BK.drewN HB12.out _) (by omega)); have HE13 := Lib.hid (hO _ _ (by first | exact HE12.out | exact BK.drewN HE12.out _) (by omega)); have HG13 := Lib.hid (grown_app (grown_trans HG12.out (by first | exact World.grownBy.refl _ _ | exact grown_drewN80 (World.grownBy.refl _ _) _)) hG (fun g e => by injection e with e; omega)); have HR5 := Lib.hid hr; have HL5 := Lib.hid hlt; (try simp only [World.size_alloc, World.heap_drewN] at hZ); have hz13 := hZ; clear hB hO hL hZ hG hr hlt; obtain ⟨r5, hr5⟩ : ∃ q, q = r := ⟨_, rfl⟩; subst hr5; simp [setsAt] at HT13))
  have HS13 := Lib.hid (show SR w13 p u (k + 6) from ⟨sd5, by have h := HB13.out; exact h⟩)
  refine (s_pick w0 p u cs (k + 6) 5 (by omega) (by omega) (by omega) _ HU.out HCS.out (HB.out.grown HG13.out HB.out.size (by intro g e; injection e with e; omega)) hp HS13.out).mono ?_
  rintro z w14 ⟨⟨x6, hx6, rfl⟩, hs1, hg1⟩
  have HS14 := Lib.hid hs1
  have HG14 := Lib.hid (grown_trans HG13.out hg1)
  have HE14 := Lib.hid (HE13.out.grown80 hg1 (by intro e; injection e with e; omega))
  have HT14 := Lib.hid (HT13.out.grown80 hg1 (by intro e; injection e with e; omega))
  have hz14 := hg1.size
  clear hs1 hg1
  obtain ⟨sd6, hsb⟩ := HS14.out
  have HB14 := Lib.hid hsb
  clear hsb
  go_wp2_with (first | (refine wpList_ar .f32 _ _ rfl rfl rfl ?_; intro r n hr hlt) | (refine wpList_fc .f32 _ _ rfl rfl rfl ?_) | (refine wpList_fc_g rfl .f32 _ _ rfl rfl rfl ?_) | (refine wpList_ar_g rfl .f32 _ _ rfl rfl rfl ?_; intro r n hr hlt) | (refine wpList_storeBK3 (store32D _ _ _) rfl rfl rfl (by first | exact HT14.out | exact BK.drewN HT14.out _) (by simp) ?_; intro w15 hB hO hL hZ hG; have HT15 := Lib.hid hB; have HB15 := Lib.hid (hO _ _ (by first | exact HB14.out | exact BK.drewN HB14.out _) (by omega)); have HE15 := Lib.hid (hO _ _ (by first | exact HE14.out | exact BK.drewN HE14.out _) (by omega)); have HG15 := Lib.hid (grown_app (grown_trans HG14.out (by first | exact World.grownBy.refl _ _ | exact grown_drewN80 (World.grownBy.refl _ _) _)) hG (fun g e => by injection e with e; omega)); have HR6 := Lib.hid hr; have HL6 := Lib.hid hlt; (try simp only [World.size_alloc, World.heap_drewN] at hZ); have hz15 := hZ; clear hB hO hL hZ hG hr hlt; obtain ⟨r6, hr6⟩ : ∃ q, q = r := ⟨_, rfl⟩; subst hr6; simp [setsAt] at HT15))
  have HS15 := Lib.hid (show SR w15 p u (k + 7) from ⟨sd6, by have h := HB15.out; exact h⟩)
  refine (s_pick w0 p u cs (k + 7) 5 (by omega) (by omega) (by omega) _ HU.out HCS.out (HB.out.grown HG15.out HB.out.size (by intro g e; injection e with e; omega)) hp HS15.out).mono ?_
  rintro z w16 ⟨⟨x7, hx7, rfl⟩, hs1, hg1⟩
  have HS16 := Lib.hid hs1
  have HG16 := Lib.hid (grown_trans HG15.out hg1)
  have HE16 := Lib.hid (HE15.out.grown80 hg1 (by intro e; injection e with e; omega))
  have HT16 := Lib.hid (HT15.out.grown80 hg1 (by intro e; injection e with e; omega))
  have hz16 := hg1.size
  clear hs1 hg1
  obtain ⟨sd7, hsb⟩ := HS16.out
  have HB16 := Lib.hid hsb
  clear hsb
  go_wp2_with (first | (refine wpList_ar .f32 _ _ rfl rfl rfl ?_; intro r n hr hlt) | (refine wpList_fc .f32 _ _ rfl rfl rfl ?_) | (refine wpList_fc_g rfl .f32 _ _ rfl rfl rfl ?_) | (refine wpList_ar_g rfl .f32 _ _ rfl rfl rfl ?_; intro r n hr hlt) | (refine wpList_storeBK3 (store32D _ _ _) rfl rfl rfl (by first | exact HT16.out | exact BK.drewN HT16.out _) (by simp) ?_; intro w17 hB hO hL hZ hG; have HT17 := Lib.hid hB; have HB17 := Lib.hid (hO _ _ (by first | exact HB16.out | exact BK.drewN HB16.out _) (by omega)); have HE17 := Lib.hid (hO _ _ (by first | exact HE16.out | exact BK.drewN HE16.out _) (by omega)); have HG17 := Lib.hid (grown_app (grown_trans HG16.out (by first | exact World.grownBy.refl _ _ | exact grown_drewN80 (World.grownBy.refl _ _) _)) hG (fun g e => by injection e with e; omega)); have HR7 := Lib.hid hr; have HL7 := Lib.hid hlt; (try simp only [World.size_alloc, World.heap_drewN] at hZ); have hz17 := hZ; clear hB hO hL hZ hG hr hlt; obtain ⟨r7, hr7⟩ : ∃ q, q = r := ⟨_, rfl⟩; subst hr7; simp [setsAt] at HT17; have hct := HT17.out.cells; have hft := HT17.out.fro; have hce := HE17.out.cells; have hfe := HE17.out.fro) | (refine wpList_storeAgg (us := [.float .f32 r0, .float .f32 r1, .float .f32 r2, .float .f32 r4, .float .f32 r3, .float .f32 r5, .float .f32 r6, .float .f32 r7]) (storeTrD _ _ _ _ _ _ _ _ _ _) rfl rfl (by simp [Value.oneCell']) HE17.out (by simp) ?_; intro w18 hB hO hL hZ hG; have HE18 := Lib.hid hB; have HB18 := Lib.hid (hO _ _ HB17.out (by omega)); have HG18 := Lib.hid (grown_app HG17.out hG (fun g e => by injection e with e; omega)); clear hB hO hL hZ hG hct hft hce hfe; simp [setsAt] at HE18; have hce := HE18.out.cells; have hfe := HE18.out.fro))
  have HS17 := Lib.hid (show SR w17 p u (k + 8) from ⟨sd7, by have h := HB17.out; exact h⟩)
  (try simp only [Exit.inBlock, Exit.then])
  refine bodyPost_ret (by simp [results, Try.results77, go_sem, hce]; try rfl) rfl ?_
  obtain ⟨b0, c0⟩ := rb hx0; obtain ⟨b1, c1⟩ := rb hx1; obtain ⟨b2, c2⟩ := rb hx2; obtain ⟨b3, c3⟩ := rb hx3; obtain ⟨b4, c4⟩ := rb hx4; obtain ⟨b6, c6⟩ := rb hx6; obtain ⟨b7, c7⟩ := rb hx7
  refine ⟨⟨_, _, _, _, _, _, _, _, x5, _, _, _, _, _, _, _, rfl, ⟨HL0.out, HL1.out, HL2.out, HL4.out, HL3.out, HL5.out, HL6.out, HL7.out⟩, ⟨lev_qv hx0 HR0.out, slo_qv hx1 HR1.out, dA_add hx2 HR2.out, dB_qv hx4 HR4.out, dC_add hx3 HR3.out, noi_qv hx5 HR5.out, dri_qv hx6 HR6.out, tur_qv hx7 HR7.out, hx5, ?_, ?_, ?_, ?_, ?_, ?_, ?_⟩⟩, ⟨_, HB18.out⟩, HG18.out⟩
  all_goals (constructor <;> grind)

end Go.Proofs.Ytkkomajokdlkeaa
