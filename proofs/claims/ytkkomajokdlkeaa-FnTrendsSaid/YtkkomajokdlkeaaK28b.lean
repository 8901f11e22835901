/- Contracts: a step of a trend that is seen, by the reference. -/
import Derived.Test.YtkkomajokdlkeaaK28
namespace Go.Proofs.Ytkkomajokdlkeaa
set_option linter.unusedSimpArgs false
set_option linter.unusedVariables false
set_option maxRecDepth 100000
set_option maxHeartbeats 4000000
set_option linter.unusedSimpArgs false
set_option linter.unusedVariables false
open Go.RowKit
attribute [local go_sem] run_store_float run_store_complex alloc_drewN setCell_drewN dmUpon


set_option maxRecDepth 100000 in
set_option maxHeartbeats 20000000 in
theorem s_TS_true (l s a b c n d t x : Nat) (hl : l < 4294967296) (hs : s < 4294967296) (ha : a < 4294967296) (hb : b < 4294967296) (hc : c < 4294967296) (hn : n < 4294967296) (hd : d < 4294967296) (ht : t < 4294967296) (hx : x < 4294967296) (hT : trendOk (cn .f32 l) (cn .f32 s) (cn .f32 a) (cn .f32 b) (cn .f32 c) (cn .f32 n) (cn .f32 d) (cn .f32 t) = true) (hF : fin (cn .f32 x) = true) (w : World) :
    Calls Try.prog 31 #[.agg #[.float .f32 l, .float .f32 s, .float .f32 a, .float .f32 b, .float .f32 c, .float .f32 n, .float .f32 d, .float .f32 t], .float .f32 x, .bool true] w fun z w' => TE z (tsQ (cn .f32 l) (cn .f32 s) (cn .f32 a) (cn .f32 b) (cn .f32 c) (cn .f32 n) (cn .f32 d) (cn .f32 t) (cn .f32 x) true) ∧ Below w.heap.size w w' := by
  have HT := Lib.hid hT
  have HF := Lib.hid hF
  clear hT hF
  have HC0 := Lib.hid (show BK ((w.alloc (.cells (List.toArray [.float .f32 l, .float .f32 s, .float .f32 a, .float .f32 b, .float .f32 c, .float .f32 n, .float .f32 d, .float .f32 t]) 47)).alloc (.cells (List.toArray [.float .f32 0, .float .f32 0, .float .f32 0, .float .f32 0, .float .f32 0, .float .f32 0, .float .f32 0, .float .f32 0]) 47)) w.heap.size [.float .f32 l, .float .f32 s, .float .f32 a, .float .f32 b, .float .f32 c, .float .f32 n, .float .f32 d, .float .f32 t] from BK.alloc (BK.new w [.float .f32 l, .float .f32 s, .float .f32 a, .float .f32 b, .float .f32 c, .float .f32 n, .float .f32 d, .float .f32 t] _) _)
  have HE0 := Lib.hid (show BK ((w.alloc (.cells (List.toArray [.float .f32 l, .float .f32 s, .float .f32 a, .float .f32 b, .float .f32 c, .float .f32 n, .float .f32 d, .float .f32 t]) 47)).alloc (.cells (List.toArray [.float .f32 0, .float .f32 0, .float .f32 0, .float .f32 0, .float .f32 0, .float .f32 0, .float .f32 0, .float .f32 0]) 47)) (w.heap.size + 1) [.float .f32 0, .float .f32 0, .float .f32 0, .float .f32 0, .float .f32 0, .float .f32 0, .float .f32 0, .float .f32 0] from BK.newAt _ _ _ (by simp))
  go_enter Try.func31, Try.ntmps31
  go_wp2_with (first
    | (go_at_call_of 79 (Value.pointer (some ⟨w.heap.size, 0, none⟩)); refine (s_l05Trend _ l s a b c n d t _ (CA.keep (CA.new w _ _ _ rfl rfl) (by (repeat (first | with_reducible exact Below.refl _ _ | with_reducible assumption | with_reducible refine below_drewN ?_ _ | with_reducible refine Below.drew ?_ | with_reducible refine Below.alloc ?_ (by first | omega | (simp; omega) | (simp; done) | (simp at *; omega)) _ | with_reducible refine Below.setCell ?_ (by first | omega | (simp; omega) | (simp; done) | (simp at *; omega)) _ | refine Below.trans ?_ (Below.mono (by with_reducible assumption) (by first | omega | (simp; omega) | (simp; done) | (simp at *; omega)))))))).mono ?_; rintro z w1 ⟨rfl, n1, rfl⟩; rw [HT.out])
    | (go_at_call_of 69 (Value.float .f32 x); refine (s_l01Finite _ _).mono ?_; rintro z w3 ⟨rfl, n3, rfl⟩; rw [HF.out])
    | (refine wpList_ar .f32 _ _ rfl rfl rfl ?_; intro r n hr hlt) | (refine wpList_fc .f32 _ _ rfl rfl rfl ?_) | (refine wpList_fc_g rfl .f32 _ _ rfl rfl rfl ?_) | (refine wpList_ar_g rfl .f32 _ _ rfl rfl rfl ?_; intro r n hr hlt)
    | (refine wpList_storeBK2 (store32 _ _ _) rfl rfl rfl (by first | exact HB.out | exact BK.drewN HB.out _ | exact BK.drew HB.out) (by simp) ?_; intro W hB hO hL hZ; replace HE := Lib.hid (hO _ _ (by first | exact HE.out | exact BK.drewN HE.out _ | exact BK.drew HE.out) (by simp)); replace HC := Lib.hid (hO _ _ (by first | exact HC.out | exact BK.drewN HC.out _ | exact BK.drew HC.out) (by simp; omega)); replace hbw := hL _ _ (by first | exact hbw | exact below_drewN hbw _) (by omega); replace HB := Lib.hid hB; clear hB hO hL hcb hfb hce hfe hcc hfc; simp only [List.set_cons_zero, List.set_cons_succ] at HB; have hcb := HB.out.cells; have hfb := HB.out.fro; have hce := HE.out.cells; have hfe := HE.out.fro; have hcc := HC.out.cells; have hfc := HC.out.fro)
    | (refine wpList_storeBK2 (store32 _ _ _) rfl rfl rfl (BK.drewN (BK.newAt _ _ _ (by simp)) _) (by simp) ?_; intro W hB hO hL hZ; have HE := Lib.hid (hO _ _ (BK.drewN (BK.alloc HE0.out _) _) (by simp)); have HC := Lib.hid (hO _ _ (BK.drewN (BK.alloc HC0.out _) _) (by simp; omega)); have hbw : Below w.heap.size w W := hL _ _ (by (repeat (first | with_reducible exact Below.refl _ _ | with_reducible assumption | with_reducible refine below_drewN ?_ _ | with_reducible refine Below.drew ?_ | with_reducible refine Below.alloc ?_ (by first | omega | (simp; omega) | (simp; done) | (simp at *; omega)) _ | with_reducible refine Below.setCell ?_ (by first | omega | (simp; omega) | (simp; done) | (simp at *; omega)) _ | refine Below.trans ?_ (Below.mono (by with_reducible assumption) (by first | omega | (simp; omega) | (simp; done) | (simp at *; omega)))))) (by omega); have HB := Lib.hid hB; clear hB hO hL; simp only [List.set_cons_zero, List.set_cons_succ] at HB; have hcb := HB.out.cells; have hfb := HB.out.fro; have hce := HE.out.cells; have hfe := HE.out.fro; have hcc := HC.out.cells; have hfc := HC.out.fro)
    | (go_at_call 88; refine (s_l05Least _ (by assumption) _).mono ?_; rintro z w5 ⟨⟨r5, rfl, hr5, hs5⟩, n5, rfl⟩)
    | (go_at_call 79; refine (s_l05Trend _ _ _ _ _ _ _ _ _ _ (by first | exact (BK.drewN HB.out _).ca | exact HB.out.ca | exact CA.drewN (CA.new _ _ _ _ rfl (by simp)) _ | exact CA.new _ _ _ _ rfl (by simp))).mono ?_; rintro z w2 ⟨rfl, n2, rfl⟩)
    | (go_at_call 69; refine (s_l01Finite _ _).mono ?_; rintro z w4 ⟨rfl, n4, rfl⟩))
  all_goals
    (try simp only [Exit.inBlock, Exit.then])
    refine bodyPost_world fun W2 hW => ?_
    obtain ⟨y0, y1, y2, y3, y4, y5, y6, y7⟩ := set8 hW (HE.out.at (i := 0) rfl) (HE.out.at (i := 1) rfl) (HE.out.at (i := 2) rfl) (HE.out.at (i := 3) rfl) (HE.out.at (i := 4) rfl) (HE.out.at (i := 5) rfl) (HE.out.at (i := 6) rfl) (HE.out.at (i := 7) rfl)
    refine bodyPost_ret (by simp [results, Try.results31, go_sem, y0, y1, y2, y3, y4, y5, y6, y7]; try rfl) rfl ?_
    have hbW : Below w.heap.size w W2 := by rw [hW]; (repeat (first | with_reducible exact Below.refl _ _ | with_reducible assumption | with_reducible refine below_drewN ?_ _ | with_reducible refine Below.drew ?_ | with_reducible refine Below.alloc ?_ (by first | omega | (simp; omega) | (simp; done) | (simp at *; omega)) _ | with_reducible refine Below.setCell ?_ (by first | omega | (simp; omega) | (simp; done) | (simp at *; omega)) _ | refine Below.trans ?_ (Below.mono (by with_reducible assumption) (by first | omega | (simp; omega) | (simp; done) | (simp at *; omega)))))
    clear hW y0 y1 y2 y3 y4 y5 y6 y7
    refine ⟨?_, hbW⟩
    clear hbW
    have h1 := HT.out
    have h2 := HF.out
    (try simp only [Bool.not_eq_true', Bool.not_eq_false'] at *)
    first
      | (simp_all only [cn0]; first | exact TE.no (tsQ_no (by simp [tsNew, trendOkL, tsA, addF, subF, mulF, divF, *])) | (refine ⟨_, _, _, _, _, _, _, _, _, _, rfl, ⟨by first | assumption | omega, by first | assumption | omega, by first | assumption | omega, by first | assumption | omega, by first | assumption | omega, by first | assumption | omega, by first | assumption | omega, by first | assumption | omega, by first | assumption | omega⟩, ?_⟩; rw [tsQ_yes (by simp [tsNew, trendOkL, tsA, addF, subF, mulF, divF, *])]; simp [tsNew, trendOkL, tsA, addF, subF, mulF, divF, *]))
      | exact TE.no (tsQ_no (by simp [tsNew, trendOkL, tsA, addF, subF, mulF, divF, *]))
      | (refine ⟨_, _, _, _, _, _, _, _, _, _, rfl, ⟨by first | assumption | omega, by first | assumption | omega, by first | assumption | omega, by first | assumption | omega, by first | assumption | omega, by first | assumption | omega, by first | assumption | omega, by first | assumption | omega, by first | assumption | omega⟩, ?_⟩; rw [tsQ_yes (by simp [tsNew, trendOkL, tsA, addF, subF, mulF, divF, *])]; simp [tsNew, trendOkL, tsA, addF, subF, mulF, divF, *])

end Go.Proofs.Ytkkomajokdlkeaa
