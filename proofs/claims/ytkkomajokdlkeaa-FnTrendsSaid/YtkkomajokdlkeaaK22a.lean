/- Contracts: a step of a trend that is not seen. -/
import Derived.Test.YtkkomajokdlkeaaK22
namespace Go.Proofs.Ytkkomajokdlkeaa
set_option linter.unusedSimpArgs false
set_option linter.unusedVariables false
set_option maxRecDepth 100000
set_option maxHeartbeats 4000000
set_option linter.unusedSimpArgs false
set_option linter.unusedVariables false
open Go.RowKit
attribute [local go_sem] run_store_float run_store_complex alloc_drewN setCell_drewN dmUpon


set_option maxRecDepth 100000 in
set_option maxHeartbeats 20000000 in
theorem i_TS_false (l s a b c n d t x : Nat) (hl : l < 4294967296) (hs : s < 4294967296) (ha : a < 4294967296) (hb : b < 4294967296) (hc : c < 4294967296) (hn : n < 4294967296) (hd : d < 4294967296) (ht : t < 4294967296) (hx : x < 4294967296) (hT : trendOk (cn .f32 l) (cn .f32 s) (cn .f32 a) (cn .f32 b) (cn .f32 c) (cn .f32 n) (cn .f32 d) (cn .f32 t) = true) (hF : fin (cn .f32 x) = true) (w : World) :
    Calls Try.prog 30 #[.agg #[.float .f32 l, .float .f32 s, .float .f32 a, .float .f32 b, .float .f32 c, .float .f32 n, .float .f32 d, .float .f32 t], .float .f32 x, .bool false] w fun z w' => TE z (tsQ (cn .f32 l) (cn .f32 s) (cn .f32 a) (cn .f32 b) (cn .f32 c) (cn .f32 n) (cn .f32 d) (cn .f32 t) (cn .f32 x) false) ∧ Below w.heap.size w w' := by
  have HT := Lib.hid hT
  have HF := Lib.hid hF
  clear hT hF
  go_enter Try.func30, Try.ntmps30
  go_wp2_with (first
    | (go_at_call 27; refine (i_ValidTrend l s a b c n d t _).mono ?_; rintro z w1 ⟨rfl, hb1⟩; rw [HT.out]; have hz1 := hb1.size; (try simp only [World.size_alloc] at hz1); have HB := Lib.hid (show BK w1 w.heap.size [.float .f32 l, .float .f32 s, .float .f32 a, .float .f32 b, .float .f32 c, .float .f32 n, .float .f32 d, .float .f32 t] from BK.keep (BK.alloc (BK.new w [.float .f32 l, .float .f32 s, .float .f32 a, .float .f32 b, .float .f32 c, .float .f32 n, .float .f32 d, .float .f32 t] _) _) hb1); have HE := Lib.hid (show BK w1 (w.heap.size + 1) [.float .f32 0, .float .f32 0, .float .f32 0, .float .f32 0, .float .f32 0, .float .f32 0, .float .f32 0, .float .f32 0] from (by have h := BK.new (w.alloc (.cells (List.toArray [.float .f32 l, .float .f32 s, .float .f32 a, .float .f32 b, .float .f32 c, .float .f32 n, .float .f32 d, .float .f32 t]) 47)) [.float .f32 0, .float .f32 0, .float .f32 0, .float .f32 0, .float .f32 0, .float .f32 0, .float .f32 0, .float .f32 0] 47; rw [World.size_alloc] at h; exact h.keep hb1)); have hbw : Below w.heap.size w w1 := (by (repeat (first | with_reducible exact Below.refl _ _ | with_reducible assumption | with_reducible refine below_drewN ?_ _ | with_reducible refine Below.drew ?_ | with_reducible refine Below.alloc ?_ (by first | omega | (simp; omega) | (simp; done) | (simp at *; omega)) _ | with_reducible refine Below.setCell ?_ (by first | omega | (simp; omega) | (simp; done) | (simp at *; omega)) _ | refine Below.trans ?_ (Below.mono (by with_reducible assumption) (by first | omega | (simp; omega) | (simp; done) | (simp at *; omega)))))); clear hb1; have hct := HB.out.cells; have hft := HB.out.fro; have hce := HE.out.cells; have hfe := HE.out.fro)
    | (go_at_call_of 87 (Value.float .f32 x); refine (i_IsFinite _ _).mono ?_; rintro z w3 ⟨rfl, n3, rfl⟩; rw [HF.out])
    | (refine wpList_ar .f32 _ _ rfl rfl rfl ?_; intro r n hr hlt) | (refine wpList_fc .f32 _ _ rfl rfl rfl ?_) | (refine wpList_fc_g rfl .f32 _ _ rfl rfl rfl ?_) | (refine wpList_ar_g rfl .f32 _ _ rfl rfl rfl ?_; intro r n hr hlt))
  refine wp_region_lit (by kernel_rfl) (by kernel_rfl) ?_
  iterate 27 (first
    | (refine wpD_arK .f32 _ _ rfl rfl rfl ?_; intro K hK r hr hlt; go_simp; refine hK _ ?_; clear hK K)
    | (refine wpD_stepK rfl ?_; intro K hK m; go_simp; refine ⟨⟨m, by first | rfl | exact (World.drewN_drewN ..).symm⟩, hK _ ?_⟩; clear hK K m))
  refine wpD_nil ?_
  intro m
  go_wp2_with (first
    | (refine wpList_storeBK2 (store32 _ _ _) rfl rfl rfl (by first | exact HB.out | exact BK.drewN HB.out _ | exact BK.drew HB.out) (by simp) ?_; intro W hB hO hL hZ; replace HE := Lib.hid (hO _ _ (by first | exact HE.out | exact BK.drewN HE.out _ | exact BK.drew HE.out) (by simp)); replace hbw := hL _ _ (by first | exact hbw | exact below_drewN hbw _) (by omega); replace HB := Lib.hid hB; clear hB hO hL hct hft hce hfe; simp only [List.set_cons_zero, List.set_cons_succ] at HB; (try simp only [World.heap_drewN] at hZ); have hct := HB.out.cells; have hft := HB.out.fro; have hce := HE.out.cells; have hfe := HE.out.fro)
    | (refine wpList_ar .f32 _ _ rfl rfl rfl ?_; intro r n hr hlt) | (refine wpList_fc .f32 _ _ rfl rfl rfl ?_) | (refine wpList_fc_g rfl .f32 _ _ rfl rfl rfl ?_) | (refine wpList_ar_g rfl .f32 _ _ rfl rfl rfl ?_; intro r n hr hlt)
    | (go_at_call 27; refine (i_ValidTrend _ _ _ _ _ _ _ _ _).mono ?_; rintro z w2 ⟨rfl, hb2⟩; have hz2 := hb2.size; (try simp only [World.heap_drewN] at hb2); (try simp only [World.heap_drewN] at hz2); replace HB := Lib.hid (BK.keep HB.out (by first | exact hb2 | exact below_undrew2 hb2)); replace HE := Lib.hid (BK.keep HE.out (by first | exact hb2 | exact below_undrew2 hb2)); replace hbw := Below.trans hbw (Below.mono (by first | exact hb2 | exact below_undrew2 hb2) (by omega)); clear hb2 hct hft hce hfe; have hct := HB.out.cells; have hft := HB.out.fro; have hce := HE.out.cells; have hfe := HE.out.fro)
    | (go_at_call 87; refine (i_IsFinite _ _).mono ?_; rintro z w4 ⟨rfl, hd4⟩; have hb4 : Below w2.heap.size w2 w4 := hd4.below _; have hz4 := hb4.size; replace HB := Lib.hid (BK.keep HB.out hb4); replace HE := Lib.hid (BK.keep HE.out hb4); replace hbw := Below.trans hbw (Below.mono hb4 (by omega)); clear hb4 hd4 hct hft hce hfe; have hct := HB.out.cells; have hft := HB.out.fro; have hce := HE.out.cells; have hfe := HE.out.fro))
  all_goals
    (try simp only [Exit.inBlock, Exit.then])
    refine bodyPost_world fun W2 hW => ?_
    obtain ⟨y0, y1, y2, y3, y4, y5, y6, y7⟩ := set8_ hW (HE.out.at (i := 0) rfl) (HE.out.at (i := 1) rfl) (HE.out.at (i := 2) rfl) (HE.out.at (i := 3) rfl) (HE.out.at (i := 4) rfl) (HE.out.at (i := 5) rfl) (HE.out.at (i := 6) rfl) (HE.out.at (i := 7) rfl)
    refine bodyPost_ret (by simp [results, Try.results30, go_sem, y0, y1, y2, y3, y4, y5, y6, y7]; try rfl) rfl ?_
    have hbW : Below w.heap.size w W2 := by rw [hW]; (repeat (first | with_reducible exact Below.refl _ _ | with_reducible assumption | with_reducible refine below_drewN ?_ _ | with_reducible refine Below.drew ?_ | with_reducible refine Below.alloc ?_ (by first | omega | (simp; omega) | (simp; done) | (simp at *; omega)) _ | with_reducible refine Below.setCell ?_ (by first | omega | (simp; omega) | (simp; done) | (simp at *; omega)) _ | refine Below.trans ?_ (Below.mono (by with_reducible assumption) (by first | omega | (simp; omega) | (simp; done) | (simp at *; omega)))))
    clear hW y0 y1 y2 y3 y4 y5 y6 y7 hct hft hce hfe HB HE hbw
    refine ⟨?_, hbW⟩
    clear hbW
    have h1 := HT.out
    have h2 := HF.out
    (try simp only [Bool.not_eq_true', Bool.not_eq_false'] at *)
    first
      | exact TE.no (tsQ_no (by simp [tsNew, trendOkL, tsA, addF, subF, mulF, divF, lst0, cn0, *]))
      | (refine ⟨_, _, _, _, _, _, _, _, _, _, rfl, ⟨by first | assumption | omega, by first | assumption | omega, by first | assumption | omega, by first | assumption | omega, by first | assumption | omega, by first | assumption | omega, by first | assumption | omega, by first | assumption | omega, by first | assumption | omega⟩, ?_⟩; rw [tsQ_yes (by simp [tsNew, trendOkL, tsA, addF, subF, mulF, divF, lst0, cn0, *])]; simp [tsNew, trendOkL, tsA, addF, subF, mulF, divF, lst0, cn0, *])

end Go.Proofs.Ytkkomajokdlkeaa
