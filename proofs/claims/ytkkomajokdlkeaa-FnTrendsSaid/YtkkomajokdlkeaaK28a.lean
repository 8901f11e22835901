/- Contracts: a step of a trend that is not seen, by the reference. -/
import Derived.Test.YtkkomajokdlkeaaK28
namespace Go.Proofs.Ytkkomajokdlkeaa
set_option linter.unusedSimpArgs false
set_option linter.unusedVariables false
set_option maxRecDepth 100000
set_option maxHeartbeats 4000000
set_option linter.unusedSimpArgs false
set_option linter.unusedVariables false
open Go.RowKit
attribute [local go_sem] run_store_float run_store_complex alloc_drewN setCell_drewN dmUpon


set_option maxRecDepth 100000 in
set_option maxHeartbeats 20000000 in
theorem s_TS_false (l s a b c n d t x : Nat) (hl : l < 4294967296) (hs : s < 4294967296) (ha : a < 4294967296) (hb : b < 4294967296) (hc : c < 4294967296) (hn : n < 4294967296) (hd : d < 4294967296) (ht : t < 4294967296) (hx : x < 4294967296) (hT : trendOk (cn .f32 l) (cn .f32 s) (cn .f32 a) (cn .f32 b) (cn .f32 c) (cn .f32 n) (cn .f32 d) (cn .f32 t) = true) (hF : fin (cn .f32 x) = true) (w : World) :
    Calls Try.prog 31 #[.agg #[.float .f32 l, .float .f32 s, .float .f32 a, .float .f32 b, .float .f32 c, .float .f32 n, .float .f32 d, .float .f32 t], .float .f32 x, .bool false] w fun z w' => TE z (tsQ (cn .f32 l) (cn .f32 s) (cn .f32 a) (cn .f32 b) (cn .f32 c) (cn .f32 n) (cn .f32 d) (cn .f32 t) (cn .f32 x) false) ∧ Below w.heap.size w w' := by
  have HT := Lib.hid hT
  have HF := Lib.hid hF
  clear hT hF
  have HC0 := Lib.hid (show BK ((w.alloc (.cells (List.toArray [.float .f32 l, .float .f32 s, .float .f32 a, .float .f32 b, .float .f32 c, .float .f32 n, .float .f32 d, .float .f32 t]) 47)).alloc (.cells (List.toArray [.float .f32 0, .float .f32 0, .float .f32 0, .float .f32 0, .float .f32 0, .float .f32 0, .float .f32 0, .float .f32 0]) 47)) w.heap.size [.float .f32 l, .float .f32 s, .float .f32 a, .float .f32 b, .float .f32 c, .float .f32 n, .float .f32 d, .float .f32 t] from BK.alloc (BK.new w [.float .f32 l, .float .f32 s, .float .f32 a, .float .f32 b, .float .f32 c, .float .f32 n, .float .f32 d, .float .f32 t] _) _)
  have HE0 := Lib.hid (show BK ((w.alloc (.cells (List.toArray [.float .f32 l, .float .f32 s, .float .f32 a, .float .f32 b, .float .f32 c, .float .f32 n, .float .f32 d, .float .f32 t]) 47)).alloc (.cells (List.toArray [.float .f32 0, .float .f32 0, .float .f32 0, .float .f32 0, .float .f32 0, .float .f32 0, .float .f32 0, .float .f32 0]) 47)) (w.heap.size + 1) [.float .f32 0, .float .f32 0, .float .f32 0, .float .f32 0, .float .f32 0, .float .f32 0, .float .f32 0, .float .f32 0] from BK.newAt _ _ _ (by simp))
  go_enter Try.func31, Try.ntmps31
  go_wp2_with (first
    | (go_at_call_of 79 (Value.pointer (some ⟨w.heap.size, 0, none⟩)); refine (s_l05Trend _ l s a b c n d t _ (CA.keep (CA.new w _ _ _ rfl rfl) (by (repeat (first | with_reducible exact Below.refl _ _ | with_reducible assumption | with_reducible refine below_drewN ?_ _ | with_reducible refine Below.drew ?_ | with_reducible refine Below.alloc ?_ (by first | omega | (simp; omega) | (simp; done) | (simp at *; omega)) _ | with_reducible refine Below.setCell ?_ (by first | omega | (simp; omega) | (simp; done) | (simp at *; omega)) _ | refine Below.trans ?_ (Below.mono (by with_reducible assumption) (by first | omega | (simp; omega) | (simp; done) | (simp at *; omega)))))))).mono ?_; rintro z w1 ⟨rfl, n1, rfl⟩; rw [HT.out])
    | (go_at_call_of 69 (Value.float .f32 x); refine (s_l01Finite _ _).mono ?_; rintro z w3 ⟨rfl, n3, rfl⟩; rw [HF.out])
    | (refine wpList_ar .f32 _ _ rfl rfl rfl ?_; intro r n hr hlt) | (refine wpList_fc .f32 _ _ rfl rfl rfl ?_) | (refine wpList_fc_g rfl .f32 _ _ rfl rfl rfl ?_) | (refine wpList_ar_g rfl .f32 _ _ rfl rfl rfl ?_; intro r n hr hlt)
    | (go_at_call 88; refine (s_l05Least _ (by assumption) _).mono ?_; rintro z w5 ⟨⟨r5, rfl, hr5, hs5⟩, n5, rfl⟩)
    | (go_at_call 79; refine (s_l05Trend _ _ _ _ _ _ _ _ _ _ (by first | exact (BK.drewN HB.out _).ca | exact HB.out.ca | exact CA.drewN (CA.new _ _ _ _ rfl (by simp)) _ | exact CA.new _ _ _ _ rfl (by simp))).mono ?_; rintro z w2 ⟨rfl, n2, rfl⟩)
    | (go_at_call 69; refine (s_l01Finite _ _).mono ?_; rintro z w4 ⟨rfl, n4, rfl⟩))
  all_goals
    go_returns
    refine ⟨?_, by (repeat (first | with_reducible exact Below.refl _ _ | with_reducible assumption | with_reducible refine below_drewN ?_ _ | with_reducible refine Below.drew ?_ | with_reducible refine Below.alloc ?_ (by first | omega | (simp; omega) | (simp; done) | (simp at *; omega)) _ | with_reducible refine Below.setCell ?_ (by first | omega | (simp; omega) | (simp; done) | (simp at *; omega)) _ | refine Below.trans ?_ (Below.mono (by with_reducible assumption) (by first | omega | (simp; omega) | (simp; done) | (simp at *; omega)))))⟩
    have h1 := HT.out
    have h2 := HF.out
    (try simp only [Bool.not_eq_true', Bool.not_eq_false'] at *)
    first
      | exact TE.no (tsQ_no (by simp [tsNew, trendOkL, tsA, addF, subF, mulF, divF, lst0, cn0, *]))
      | (refine ⟨_, _, _, _, _, _, _, _, _, _, rfl, ⟨by first | assumption | omega, by first | assumption | omega, by first | assumption | omega, by first | assumption | omega, by first | assumption | omega, by first | assumption | omega, by first | assumption | omega, by first | assumption | omega, by first | assumption | omega⟩, ?_⟩; rw [tsQ_yes (by simp [tsNew, trendOkL, tsA, addF, subF, mulF, divF, lst0, cn0, *])]; simp [tsNew, trendOkL, tsA, addF, subF, mulF, divF, lst0, cn0, *])

end Go.Proofs.Ytkkomajokdlkeaa
