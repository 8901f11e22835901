/- Contracts: a trend that the laws draw (B10Trend). -/
import Derived.Test.YtkkomajokdlkeaaTp
namespace Go.Proofs.Ytkkomajokdlkeaa
set_option linter.unusedSimpArgs false
set_option linter.unusedVariables false
set_option maxRecDepth 100000
set_option maxHeartbeats 4000000
set_option linter.unusedSimpArgs false
set_option linter.unusedVariables false
open Go.RowKit
attribute [local go_sem] run_store_float run_store_complex alloc_drewN setCell_drewN

/-- What B10Trend draws. -/
structure DT2 (l v a b c n d t : Nat) (j : Nat) (L V A B C D E : Rat) : Prop where
  hl : QV S l L
  hv : QV S v V
  ha : QV S a A
  hb : QV S b B
  hc : QV S c C
  hn : QV S n (((j : Rat) + 1) / 4)
  hd : QV S d D
  ht : QV S t E
  hj : j < 8
  bl : -2 ≤ L ∧ L ≤ 2
  bv : -1 ≤ V ∧ V ≤ 1
  ba : 1 / 2 ≤ A ∧ A ≤ 9 / 2
  bb : -1 / 8 ≤ B ∧ B ≤ 1 / 8
  bc : 1 / 4 ≤ C ∧ C ≤ 5 / 4
  bd : 0 ≤ D ∧ D ≤ 1 / 2
  bt : 0 ≤ E ∧ E ≤ 1 / 4

set_option maxRecDepth 100000 in
theorem s_B10Trend (u : Value) (cs : List Int) (w : World) (hu : GL (Value.int .u8) w u cs) (hcs : allU8 cs) :
    Calls Try.prog 23 #[u] w fun e w' => (∃ l v a b c n d t j L V A B C D E, e = .returned (.agg #[.float .f32 l, .float .f32 v, .float .f32 a, .float .f32 b, .float .f32 c, .float .f32 n, .float .f32 d, .float .f32 t]) ∧ (l < 4294967296 ∧ v < 4294967296 ∧ a < 4294967296 ∧ b < 4294967296 ∧ c < 4294967296 ∧ n < 4294967296 ∧ d < 4294967296 ∧ t < 4294967296) ∧ DT2 l v a b c n d t j L V A B C D E) ∧ Below w.heap.size w w' := by
  have HU := Lib.hid hu
  clear hu
  obtain ⟨w1, hw1⟩ : ∃ w1, w1 = w.alloc (.cells (List.toArray [.float .f32 0, .float .f32 0, .float .f32 0, .float .f32 0, .float .f32 0, .float .f32 0, .float .f32 0, .float .f32 0]) 47) := ⟨_, rfl⟩
  have HE1 := Lib.hid (show BK w1 w.heap.size [.float .f32 0, .float .f32 0, .float .f32 0, .float .f32 0, .float .f32 0, .float .f32 0, .float .f32 0, .float .f32 0] by rw [hw1]; exact BK.new w _ _)
  have HB1 := Lib.hid (show Below w.heap.size w w1 by rw [hw1]; (repeat (first | with_reducible exact Below.refl _ _ | with_reducible assumption | with_reducible refine below_drewN ?_ _ | with_reducible refine Below.drew ?_ | with_reducible refine Below.alloc ?_ (by first | omega | (simp; omega) | (simp; done) | (simp at *; omega)) _ | with_reducible refine Below.setCell ?_ (by first | omega | (simp; omega) | (simp; done) | (simp at *; omega)) _ | refine Below.trans ?_ (Below.mono (by with_reducible assumption) (by first | omega | (simp; omega) | (simp; done) | (simp at *; omega))))))
  have hz1 : w.heap.size + 1 ≤ w1.heap.size := by rw [hw1]; simp
  have HW1 := Lib.hid hw1
  clear hw1
  go_enter Try.func23, Try.ntmps23
  go_wp2_with fail
  rw [← HW1.out]
  clear HW1
  refine (s_l00From u _ cs (HU.out.keep HB1.out)).mono ?_
  rintro z w2 ⟨rfl, hs1, hb1, hz2⟩
  have HS2 := Lib.hid hs1
  have HB2 := Lib.hid (HB1.out.trans (hb1.mono HB1.out.size))
  have HE2 := Lib.hid (HE1.out.keep hb1)
  clear hs1 hb1
  go_wp2_with fail
  refine (s_l05DrawTrendOk w w1.heap.size u cs 0 (by omega) _ HU.out hcs HB2.out (by omega) HS2.out (by omega)).mono ?_
  rintro z w3 ⟨⟨l, v, a, b, c, no, d, t, j, L, V, A, B, C, D, E, rfl, ⟨q0, q1, q2, q3, q4, q5, q6, q7⟩, hd⟩, hs2, hg2⟩
  have HD := Lib.hid hd
  have HG := Lib.hid hg2
  have hz3 := hg2.size
  have HB3 := Lib.hid (HB2.out.grown hg2 HB2.out.size (by intro g e; injection e with e; omega))
  have HE3 := Lib.hid (HE2.out.grown80 hg2 (by intro e; injection e with e; omega))
  clear hd hs2 hg2
  go_wp2_with (first | ((with_reducible refine wpList_ar .f32 a 1056964608 ?_ ?_ ?_ ?_); (· rfl); (· rfl); (· rfl); intro ra na hra hlta) | ((with_reducible refine wpList_ar .f32 c 1048576000 ?_ ?_ ?_ ?_); (· rfl); (· rfl); (· rfl); intro rc nc hrc hltc) | (refine wpList_storeAgg (us := [.float .f32 l, .float .f32 v, .float .f32 ra, .float .f32 b, .float .f32 rc, .float .f32 no, .float .f32 d, .float .f32 t]) (storeTrD _ _ _ _ _ _ _ _ _ _) rfl rfl (by simp [Value.oneCell']) (by first | exact BK.drewN (BK.alloc HE3.out _) _ | exact BK.alloc (BK.drewN HE3.out _) _) (by simp) ?_; intro w7 hB hO hL hZ hG; have HE7 := Lib.hid hB; have HB7 := Lib.hid (hL _ _ (below_drewN (Below.alloc HB3.out (by omega) _) _) (by omega)); have HR2 := Lib.hid hra; have HL2 := Lib.hid hlta; have HR4 := Lib.hid hrc; have HL4 := Lib.hid hltc; clear hB hO hL hZ hG hrc hltc hra hlta; simp [setsAt] at HE7; have hce := HE7.out.cells; have hfe := HE7.out.fro))
  (try simp only [Exit.inBlock, Exit.then])
  refine bodyPost_ret (by simp [results, Try.results23, go_sem, hce]; try rfl) rfl ?_
  have h2 := HR2.out
  have h4 := HR4.out
  have hd := HD.out
  have e1 : QV S ra A := raw_qv (c := addF a 1056964608) (by rw [h2, hd.ha.2]; rfl) hd.ha.1 (by have := hd.ba; grind) (by have := hd.ba; grind)
  have e2 : QV S rc C := raw_qv (c := addF c 1048576000) (by rw [h4, hd.hc.2]; rfl) hd.hc.1 (by have := hd.bc; grind) (by have := hd.bc; grind)
  exact ⟨⟨_, _, _, _, _, _, _, _, j, L, V, A, B, C, D, E, rfl, ⟨q0, q1, HL2.out, q3, HL4.out, q5, q6, q7⟩, ⟨hd.hl, hd.hv, e1, hd.hb, e2, hd.hn, hd.hd, hd.ht, hd.hj, hd.bl, hd.bv, hd.ba, hd.bb, hd.bc, hd.bd, hd.bt⟩⟩, HB7.out⟩

end Go.Proofs.Ytkkomajokdlkeaa
