/- Contracts: trends ahead. -/
import Derived.Test.YtkkomajokdlkeaaK6
import Derived.Test.YtkkomajokdlkeaaK2
namespace Go.Proofs.Ytkkomajokdlkeaa
set_option linter.unusedSimpArgs false
set_option linter.unusedVariables false
set_option maxRecDepth 100000
set_option maxHeartbeats 4000000
open Go.RowKit
attribute [local go_sem] run_store_float run_store_complex alloc_drewN setCell_drewN

/-- Numbers that come. -/
def taL (l s : Nat) (n : Nat) : List Nat := (List.range n).map fun (i : Nat) => addF l (mulF (fI ((i : Int) + 1)) s)
theorem taL_length (l s n : Nat) : (taL l s n).length = n := by simp [taL]
theorem taL_succ (l s n : Nat) : taL l s (n + 1) = taL l s n ++ [addF l (mulF (fI ((n : Int) + 1)) s)] := by simp [taL, List.range_succ]


def aheadQ (ok : Bool) (l s : Nat) (count : Int) : List Nat × Bool := if ok && inB count 0 32 then given (taL l s count.toNat) else ([], false)
set_option maxRecDepth 100000 in
theorem i_TrendAhead (a b c d e f g h : Nat) (count : Int) (w : World) :
    Calls Try.prog 24 #[.agg #[.float .f32 a, .float .f32 b, .float .f32 c, .float .f32 d, .float .f32 e, .float .f32 f, .float .f32 g, .float .f32 h], .int .i64 count] w fun z w' => LB 33 w.heap.size w' z (aheadQ (trendOk (cn .f32 a) (cn .f32 b) (cn .f32 c) (cn .f32 d) (cn .f32 e) (cn .f32 f) (cn .f32 g) (cn .f32 h)) (cn .f32 a) (cn .f32 b) count) ∧ Below w.heap.size w w' := by
  generalize hT : trendOk (cn .f32 a) (cn .f32 b) (cn .f32 c) (cn .f32 d) (cn .f32 e) (cn .f32 f) (cn .f32 g) (cn .f32 h) = T
  have HT := Lib.hid hT
  clear hT
  cases T
  · go_enter Try.func24, Try.ntmps24
    go_wp2_with (go_at_call 27; refine (i_ValidTrend a b c d e f g h _).mono ?_; rintro z w1 ⟨rfl, hb1⟩; rw [HT.out])
    go_ret2
    exact ⟨LB.no _ _ _ rfl, by (repeat (first | exact Below.refl _ _ | assumption | refine below_drewN ?_ _ | refine Below.drew ?_ | refine Below.alloc ?_ (by first | omega | (simp; omega) | (simp; done) | (simp at *; omega)) _ | refine Below.setCell ?_ (by first | omega | (simp; omega) | (simp; done) | (simp at *; omega)) _ | refine Below.trans ?_ (Below.mono (by assumption) (by first | omega | (simp; omega) | (simp; done) | (simp at *; omega)))))⟩
  · by_cases hin : 0 ≤ count ∧ count ≤ 32
    · obtain ⟨n, rfl⟩ := Int.eq_ofNat_of_zero_le hin.1
      have hn : n ≤ 32 := by omega
      have HIN := Lib.hid (show inB (n : Int) 0 32 = true by simp [inB]; omega)
      have HQ := Lib.hid (show aheadQ true (cn .f32 a) (cn .f32 b) (n : Int) = given (taL (cn .f32 a) (cn .f32 b) n) by rw [aheadQ, HIN.out]; rfl)
      clear hin
      go_enter Try.func24, Try.ntmps24
      go_wp2_with (first | (go_at_call 27; refine (i_ValidTrend a b c d e f g h _).mono ?_; rintro z w1 ⟨rfl, hb1⟩; rw [HT.out]; have hz1 := hb1.size; (try simp only [World.size_alloc, World.size_drew, World.heap_drewN, World.size_setCell] at hz1); have hp1 : w.heap.size + 1 ≤ w1.heap.size := (by omega); obtain ⟨hc1, hf1⟩ := bcellN (N := w.heap.size + 1) hb1 (by first | omega | (simp; done) | (simp; omega))) | (go_at_call 78; refine (i_isForth _ _).mono ?_; rintro z w2 ⟨rfl, n2, rfl⟩; rw [HIN.out]))
      go_loopw [6, 18] (fun v i wr => ∃ k : Nat, k ≤ n ∧ i = .int .i64 k ∧ Hid (OW 33 w1.heap.size wr v (taL (cn .f32 a) (cn .f32 b) k)) ∧ Below w1.heap.size w1 wr) (fun _ i _ => n - (intOf i).toNat)
      case atStart => exact ⟨0, Nat.zero_le _, rfl, (by show OW _ _ _ _ _; first | exact OW.drewN (OW.empty _ _ rfl (Nat.le_refl _)) _ | exact OW.empty _ _ rfl (Nat.le_refl _)), by (repeat (first | exact Below.refl _ _ | assumption | refine below_drewN ?_ _ | refine Below.drew ?_ | refine Below.alloc ?_ (by first | omega | (simp; omega) | (simp; done) | (simp at *; omega)) _ | refine Below.setCell ?_ (by first | omega | (simp; omega) | (simp; done) | (simp at *; omega)) _ | refine Below.trans ?_ (Below.mono (by assumption) (by first | omega | (simp; omega) | (simp; done) | (simp at *; omega)))))⟩
      case round =>
        obtain ⟨k, hk, rfl, HO, hb⟩ := hrel
        obtain ⟨hcr, hfr⟩ := bcellN hb hp1
        have hz := hb.size
        by_cases hlt : k < n
        · have HL := Lib.hid (show (taL (cn .f32 a) (cn .f32 b) k).length < 1099511627776 by rw [taL_length]; omega)
          go_wp2_with (first | (refine wpList_ar .f32 _ _ rfl rfl rfl ?_; intro r n0 hr hlt) | (at_builtin; refine wpList_app1 f32s w1.heap.size u6 _ rfl (by first | exact OW.drewN (OW.alloc HO.out _) _ | exact OW.alloc HO.out _) _ r rfl (by simp; done) hlt HL.out (by simp; omega) ?_; intro v' w' ho' hg'; have HO' := Lib.hid ho'; clear ho'))
          have hcf : cn .f32 (floatOfInt .f32 ((k : Int) + 1)) = fI ((k : Int) + 1) := cn_fI _
          have e : cn .f32 r = addF (cn .f32 a) (mulF (fI ((k : Int) + 1)) (cn .f32 b)) := by rw [hr]; simp only [*]; rfl
          refine ⟨⟨k + 1, by omega, by go_num, ?_, ?_⟩, by simp [intOf]; omega⟩
          · have h1 := HO'.out
            rw [e, ← taL_succ] at h1
            exact h1
          · refine below_of_grown ?_ hg' (by simp; omega) HO.out.own_ge
            (repeat (first | exact Below.refl _ _ | assumption | refine below_drewN ?_ _ | refine Below.drew ?_ | refine Below.alloc ?_ (by first | omega | (simp; omega) | (simp; done) | (simp at *; omega)) _ | refine Below.setCell ?_ (by first | omega | (simp; omega) | (simp; done) | (simp at *; omega)) _ | refine Below.trans ?_ (Below.mono (by assumption) (by first | omega | (simp; omega) | (simp; done) | (simp at *; omega)))))
        · go_wp2_with (go_at_call 76; refine (i_ifAll _ _ _ HO.out.sb.sl).mono ?_; rintro z w3 ⟨⟨u, q, rfl, hu, hq⟩, n3, rfl⟩; have HU := Lib.hid hu; have HQ2 := Lib.hid hq; clear hu hq)
          go_ret2
          obtain rfl : k = n := by omega
          refine ⟨LB.given (OW.down (OW.drewN HO.out _) (by omega)) HU.out HQ2.out HQ.out, ?_⟩
          (repeat (first | exact Below.refl _ _ | assumption | refine below_drewN ?_ _ | refine Below.drew ?_ | refine Below.alloc ?_ (by first | omega | (simp; omega) | (simp; done) | (simp at *; omega)) _ | refine Below.setCell ?_ (by first | omega | (simp; omega) | (simp; done) | (simp at *; omega)) _ | refine Below.trans ?_ (Below.mono (by assumption) (by first | omega | (simp; omega) | (simp; done) | (simp at *; omega)))))
    · have HIN := Lib.hid (show inB count 0 32 = false by simp [inB]; omega)
      clear hin
      go_enter Try.func24, Try.ntmps24
      go_wp2_with (first | (go_at_call 27; refine (i_ValidTrend a b c d e f g h _).mono ?_; rintro z w1 ⟨rfl, hb1⟩; rw [HT.out]) | (go_at_call 78; refine (i_isForth _ _).mono ?_; rintro z w2 ⟨rfl, n2, rfl⟩; rw [HIN.out]))
      go_ret2
      exact ⟨LB.no _ _ _ (by rw [aheadQ, HIN.out]; rfl), by (repeat (first | exact Below.refl _ _ | assumption | refine below_drewN ?_ _ | refine Below.drew ?_ | refine Below.alloc ?_ (by first | omega | (simp; omega) | (simp; done) | (simp at *; omega)) _ | refine Below.setCell ?_ (by first | omega | (simp; omega) | (simp; done) | (simp at *; omega)) _ | refine Below.trans ?_ (Below.mono (by assumption) (by first | omega | (simp; omega) | (simp; done) | (simp at *; omega)))))⟩

end Go.Proofs.Ytkkomajokdlkeaa
