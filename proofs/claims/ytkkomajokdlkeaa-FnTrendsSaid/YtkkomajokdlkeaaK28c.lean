/- Contracts: a step of a trend, by the reference. -/
import Derived.Test.YtkkomajokdlkeaaK28a
import Derived.Test.YtkkomajokdlkeaaK28b
namespace Go.Proofs.Ytkkomajokdlkeaa
set_option linter.unusedSimpArgs false
set_option linter.unusedVariables false
set_option maxRecDepth 100000
set_option maxHeartbeats 4000000
set_option linter.unusedSimpArgs false
set_option linter.unusedVariables false
open Go.RowKit
attribute [local go_sem] run_store_float run_store_complex alloc_drewN setCell_drewN dmUpon


set_option maxRecDepth 100000 in
theorem s_TrendStep (l s a b c n d t x : Nat) (hl : l < 4294967296) (hs : s < 4294967296) (ha : a < 4294967296) (hb : b < 4294967296) (hc : c < 4294967296) (hn : n < 4294967296) (hd : d < 4294967296) (ht : t < 4294967296) (hx : x < 4294967296) (seen : Bool) (w : World) :
    Calls Try.prog 31 #[.agg #[.float .f32 l, .float .f32 s, .float .f32 a, .float .f32 b, .float .f32 c, .float .f32 n, .float .f32 d, .float .f32 t], .float .f32 x, .bool seen] w fun z w' => TE z (tsQ (cn .f32 l) (cn .f32 s) (cn .f32 a) (cn .f32 b) (cn .f32 c) (cn .f32 n) (cn .f32 d) (cn .f32 t) (cn .f32 x) seen) ∧ Below w.heap.size w w' := by
  cases hT : trendOk (cn .f32 l) (cn .f32 s) (cn .f32 a) (cn .f32 b) (cn .f32 c) (cn .f32 n) (cn .f32 d) (cn .f32 t)
  · have HT := Lib.hid hT
    have HQ := Lib.hid (tsQ_no (x := cn .f32 x) (seen := seen) (by rw [hT]; rfl))
    clear hT
    go_enter Try.func31, Try.ntmps31
    go_wp2_with (go_at_call 79; refine (s_l05Trend _ l s a b c n d t _ (CA.keep (CA.new w _ _ _ rfl rfl) (by (repeat (first | exact Below.refl _ _ | assumption | refine below_drewN ?_ _ | refine Below.drew ?_ | refine Below.alloc ?_ (by first | omega | (simp; omega) | (simp; done) | (simp at *; omega)) _ | refine Below.setCell ?_ (by first | omega | (simp; omega) | (simp; done) | (simp at *; omega)) _ | refine Below.trans ?_ (Below.mono (by assumption) (by first | omega | (simp; omega) | (simp; done) | (simp at *; omega)))))))).mono ?_; rintro z w1 ⟨rfl, n1, rfl⟩; rw [HT.out])
    go_returns
    exact ⟨TE.no HQ.out, by (repeat (first | with_reducible exact Below.refl _ _ | with_reducible assumption | with_reducible refine below_drewN ?_ _ | with_reducible refine Below.drew ?_ | with_reducible refine Below.alloc ?_ (by first | omega | (simp; omega) | (simp; done) | (simp at *; omega)) _ | with_reducible refine Below.setCell ?_ (by first | omega | (simp; omega) | (simp; done) | (simp at *; omega)) _ | refine Below.trans ?_ (Below.mono (by with_reducible assumption) (by first | omega | (simp; omega) | (simp; done) | (simp at *; omega)))))⟩
  · have HT := Lib.hid hT
    cases hF : fin (cn .f32 x)
    · have HF := Lib.hid hF
      have HQ := Lib.hid (tsQ_no (x := cn .f32 x) (seen := seen) (by rw [hT, hF]; rfl))
      clear hT hF
      go_enter Try.func31, Try.ntmps31
      go_wp2_with (first
        | (go_at_call 79; refine (s_l05Trend _ l s a b c n d t _ (CA.keep (CA.new w _ _ _ rfl rfl) (by (repeat (first | exact Below.refl _ _ | assumption | refine below_drewN ?_ _ | refine Below.drew ?_ | refine Below.alloc ?_ (by first | omega | (simp; omega) | (simp; done) | (simp at *; omega)) _ | refine Below.setCell ?_ (by first | omega | (simp; omega) | (simp; done) | (simp at *; omega)) _ | refine Below.trans ?_ (Below.mono (by assumption) (by first | omega | (simp; omega) | (simp; done) | (simp at *; omega)))))))).mono ?_; rintro z w1 ⟨rfl, n1, rfl⟩; rw [HT.out])
        | (go_at_call_of 69 (Value.float .f32 x); refine (s_l01Finite _ _).mono ?_; rintro z w3 ⟨rfl, n3, rfl⟩; rw [HF.out]))
      go_returns
      exact ⟨TE.no HQ.out, by (repeat (first | with_reducible exact Below.refl _ _ | with_reducible assumption | with_reducible refine below_drewN ?_ _ | with_reducible refine Below.drew ?_ | with_reducible refine Below.alloc ?_ (by first | omega | (simp; omega) | (simp; done) | (simp at *; omega)) _ | with_reducible refine Below.setCell ?_ (by first | omega | (simp; omega) | (simp; done) | (simp at *; omega)) _ | refine Below.trans ?_ (Below.mono (by with_reducible assumption) (by first | omega | (simp; omega) | (simp; done) | (simp at *; omega)))))⟩
    · cases seen
      · exact s_TS_false l s a b c n d t x hl hs ha hb hc hn hd ht hx hT hF w
      · exact s_TS_true l s a b c n d t x hl hs ha hb hc hn hd ht hx hT hF w

end Go.Proofs.Ytkkomajokdlkeaa
