/- THE LAW FnExactStoreSaved: the program's StoreSaved returns what the reference's returns, for all arguments. No condition. -/
import Derived.Test.YtfckfdaloamkdaaLawKit
import Derived.Test.YtfckfdaloamkdaaOpen2
import Derived.Test.YtfckfdaloamkdaaK75
import Derived.Deep.RegionHeld3
import Derived.Deep.RegionWith
namespace Go.Proofs.Ytfckfdaloamkdaa
set_option linter.unusedSimpArgs false
set_option linter.unusedVariables false
set_option maxRecDepth 100000
set_option maxHeartbeats 4000000
open Go.ChangeShapes Go.WideShapes Go.ChangeAt Go.RowKit
set_option linter.unusedVariables false


theorem FnExactStoreSaved_walk (w : World) (s : ByteArray) (hs : s.size ≤ maxLen) (d : Int) (hd : (Lit.int .i64 d).wf = true) (v : Value) (cs : List Nat) (hv : SB w v cs) :
    Calls Try.prog 4 #[.agg #[.string s, .int .i64 d, v]] w fun z w' => z = .returned (.bool true) ∧ Below w.heap.size w w' := by
  have HV := Lib.hid hv
  obtain ⟨ao, c, rfl, hlen⟩ := hv.sl.slice
  have hs' : s.size ≤ 9223372036854775807 := hs
  clear hv hs hd
  have hz0 : szV s cs.length 1048576 = if (s.size : Int) + cs.length ≤ 1048576 then (1048576 : Int) - s.size - cs.length else -1 := rfl
  by_cases hb : (s.size : Int) + cs.length ≤ 1048576
  · rw [if_pos hb] at hz0
    have HZ := Lib.hid hz0
    have hn : cs.length < 1099511627776 := by omega
    have hnn : (0 : Int) ≤ 1048576 - s.size - cs.length := by omega
    clear hz0
    generalize hQ : storeQ s d cs (savedOk s d cs) = Q
    have HQ := Lib.hid hQ
    clear hQ
    go_enter Try.func4, Try.ntmps4
    go_wp2_with fail
    refine (l_szSaved s hs' d _ cs _ _ (HV.out.keep (by (repeat (first | exact Below.refl _ _ | assumption | refine below_drewN ?_ _ | refine Below.drew ?_ | refine Below.alloc ?_ (by first | omega | (simp; omega) | (simp; done) | (simp at *; omega)) _ | refine Below.setCell ?_ (by first | omega | (simp; omega) | (simp; done) | (simp at *; omega)) _ | refine Below.trans ?_ (Below.mono (by assumption) (by first | omega | (simp; omega) | (simp; done) | (simp at *; omega))))))).sl (by omega) (by omega)).mono ?_; rintro z w1 ⟨rfl, hb1⟩; have hz1 := hb1.size; (try simp only [World.size_alloc, World.size_drew, World.heap_drewN, World.size_setCell] at hz1); have hp1 : w.heap.size + 1 ≤ w1.heap.size := (by omega); obtain ⟨hc1, hf1⟩ := bcellN (N := w.heap.size + 1) hb1 (by first | omega | (simp; done) | (simp; omega))
    rw [HZ.out]
    go_wp2_with fail
    refine (l_toSaved s d _ cs _ (HV.out.keep (by (repeat (first | exact Below.refl _ _ | assumption | refine below_drewN ?_ _ | refine Below.drew ?_ | refine Below.alloc ?_ (by first | omega | (simp; omega) | (simp; done) | (simp at *; omega)) _ | refine Below.setCell ?_ (by first | omega | (simp; omega) | (simp; done) | (simp at *; omega)) _ | refine Below.trans ?_ (Below.mono (by assumption) (by first | omega | (simp; omega) | (simp; done) | (simp at *; omega))))))) hn).mono ?_; rintro z w2 ⟨⟨u2, rfl, ho2⟩, hb2⟩; have hz2 := hb2.size; (try simp only [World.size_alloc, World.size_drew, World.heap_drewN, World.size_setCell] at hz2); have hp2 : w.heap.size + 1 ≤ w2.heap.size := (by omega); obtain ⟨hc2, hf2⟩ := bcellN (N := w.heap.size + 1) hb2 (by first | omega | (simp; done) | (simp; omega))
    have hk3 := s_StoreSaved s hs' d u2 cs w2 ho2.sb
    rw [HQ.out] at hk3
    clear ho2
    go_wp2_with fail
    refine hk3.mono ?_; rintro z w3 ⟨rfl, hb3⟩; have hz3 := hb3.size; (try simp only [World.size_alloc, World.size_drew, World.heap_drewN, World.size_setCell] at hz3); have hp3 : w.heap.size + 1 ≤ w3.heap.size := (by omega); obtain ⟨hc3, hf3⟩ := bcellN (N := w.heap.size + 1) hb3 (by first | omega | (simp; done) | (simp; omega))
    clear hk3
    go_wp2_with fail
    refine (l_toSaved s d _ cs _ (HV.out.keep (by (repeat (first | exact Below.refl _ _ | assumption | refine below_drewN ?_ _ | refine Below.drew ?_ | refine Below.alloc ?_ (by first | omega | (simp; omega) | (simp; done) | (simp at *; omega)) _ | refine Below.setCell ?_ (by first | omega | (simp; omega) | (simp; done) | (simp at *; omega)) _ | refine Below.trans ?_ (Below.mono (by assumption) (by first | omega | (simp; omega) | (simp; done) | (simp at *; omega))))))) hn).mono ?_; rintro z w4 ⟨⟨u4, rfl, ho4⟩, hb4⟩; have hz4 := hb4.size; (try simp only [World.size_alloc, World.size_drew, World.heap_drewN, World.size_setCell] at hz4); have hp4 : w.heap.size + 1 ≤ w4.heap.size := (by omega); obtain ⟨hc4, hf4⟩ := bcellN (N := w.heap.size + 1) hb4 (by first | omega | (simp; done) | (simp; omega))
    obtain ⟨bo4, c4, rfl, hl4⟩ := ho4.sb.sl.slice
    have HO4 := Lib.hid ho4
    clear ho4
    have f40 : w4.cell? ⟨w.heap.size, 0, none⟩ = some (.string s) := by rw [hc4 _ _ (by omega), hc3 _ _ (by omega), hc2 _ _ (by omega), hc1 _ _ (by omega)]; go_simp
    have f41 : w4.cell? ⟨w.heap.size, 1, none⟩ = some (.int .i64 d) := by rw [hc4 _ _ (by omega), hc3 _ _ (by omega), hc2 _ _ (by omega), hc1 _ _ (by omega)]; go_simp
    have f42 : w4.cell? ⟨w.heap.size, 2, none⟩ = some (.slice ao cs.length c) := by rw [hc4 _ _ (by omega), hc3 _ _ (by omega), hc2 _ _ (by omega), hc1 _ _ (by omega)]; go_simp
    go_wp2_with fail
    refine (i_StoreSaved s hs' d _ cs _ (HO4.out.alloc _).sb).mono ?_; rintro z w5 ⟨rfl, hb5⟩; have hz5 := hb5.size; (try simp only [World.size_alloc, World.size_drew, World.heap_drewN, World.size_setCell] at hz5); have hp5 : w.heap.size + 1 ≤ w5.heap.size := (by omega); obtain ⟨hc5, hf5⟩ := bcellN (N := w.heap.size + 1) hb5 (by first | omega | (simp; done) | (simp; omega))
    rw [HQ.out]
    have f50 : w5.cell? ⟨w.heap.size, 0, none⟩ = some (.string s) := by rw [hc5 _ _ (by omega)]; exact (World.cell?_alloc_past _ _ _ (by omega)).trans f40
    have f51 : w5.cell? ⟨w.heap.size, 1, none⟩ = some (.int .i64 d) := by rw [hc5 _ _ (by omega)]; exact (World.cell?_alloc_past _ _ _ (by omega)).trans f41
    have f52 : w5.cell? ⟨w.heap.size, 2, none⟩ = some (.slice ao cs.length c) := by rw [hc5 _ _ (by omega)]; exact (World.cell?_alloc_past _ _ _ (by omega)).trans f42
    clear hc1 hc2 hc3 hc4 hc5 f40 f41 f42
    obtain ⟨hx5, hy5⟩ := bcellN (N := w4.heap.size + 1) hb5 (by simp)
    have hz5' : w4.heap.size + 1 ≤ w5.heap.size := by have := hb5.size; simp at this; omega
    have HO5 := Lib.hid ((HO4.out.alloc _).keep hb5)
    go_wp2_with fail
    go_region_held3 (fun W => W.cell? ⟨w.heap.size, 0, none⟩ = some (.string s) ∧ W.cell? ⟨w.heap.size, 1, none⟩ = some (.int .i64 d) ∧ W.cell? ⟨w.heap.size, 2, none⟩ = some (.slice ao cs.length c) ∧ W.cell? ⟨w4.heap.size, 0, none⟩ = some (.string s) ∧ W.cell? ⟨w4.heap.size, 1, none⟩ = some (.int .i64 d) ∧ W.cell? ⟨w4.heap.size, 2, none⟩ = some (.slice bo4 cs.length c4)) (first | (simp; done) | (simp [*]; done)) (first
      | (go_at_call 21; go_loud (refine (l_toSaved s d _ cs _ (HV.out.keep (by (repeat (first | exact Below.refl _ _ | assumption | refine below_drewN ?_ _ | refine Below.drew ?_ | refine Below.alloc ?_ (by first | omega | (simp; omega) | (simp; done) | (simp at *; omega)) _ | refine Below.setCell ?_ (by first | omega | (simp; omega) | (simp; done) | (simp at *; omega)) _ | refine Below.trans ?_ (Below.mono (by assumption) (by first | omega | (simp; omega) | (simp; done) | (simp at *; omega))))))) hn).mono ?_; rintro z w6 ⟨⟨u6, rfl, ho6⟩, hb6⟩; have hz6 := hb6.size; (try simp only [World.size_alloc, World.size_drew, World.heap_drewN, World.size_setCell] at hz6); have hp6 : w.heap.size + 1 ≤ w6.heap.size := (by omega); obtain ⟨hc6, hf6⟩ := bcellN (N := w.heap.size + 1) hb6 (by first | omega | (simp; done) | (simp; omega)); obtain ⟨hx6, hy6⟩ := bcellN (N := w4.heap.size + 1) hb6 hz5'; have HO6 := Lib.hid (show OW 54 w3.heap.size w6 _ cs from by first | exact (OW.drew HO5.out).keep hb6 | exact (OW.drewN HO5.out _).keep hb6 | exact HO5.out.keep hb6); have HP6 := Lib.hid ho6; clear ho6))
      | (go_at_call 23; refine (l_eqSaved s d _ u6 cs _ HO6.out.sb.sl HP6.out.sb.sl).mono ?_; rintro z w7 ⟨rfl, hb7⟩; have hz7 := hb7.size; (try simp only [World.size_alloc, World.size_drew, World.heap_drewN, World.size_setCell] at hz7); have hp7 : w.heap.size + 1 ≤ w7.heap.size := (by omega); obtain ⟨hc7, hf7⟩ := bcellN (N := w.heap.size + 1) hb7 (by first | omega | (simp; done) | (simp; omega)); obtain ⟨hx7, hy7⟩ := bcellN (N := w4.heap.size + 1) hb7 (by first | omega | (simp; omega))))
    all_goals
      go_wp2_with fail
      go_ret
      exact ⟨rfl, by (repeat (first | exact Below.refl _ _ | assumption | refine below_drewN ?_ _ | refine Below.drew ?_ | refine Below.alloc ?_ (by first | omega | (simp; omega) | (simp; done) | (simp at *; omega)) _ | refine Below.setCell ?_ (by first | omega | (simp; omega) | (simp; done) | (simp at *; omega)) _ | refine Below.trans ?_ (Below.mono (by assumption) (by first | omega | (simp; omega) | (simp; done) | (simp at *; omega)))))⟩
  · rw [if_neg hb] at hz0
    have HZ := Lib.hid hz0
    clear hz0
    go_enter Try.func4, Try.ntmps4
    go_wp2_with fail
    refine (l_szSaved s hs' d _ cs _ _ (HV.out.keep (by (repeat (first | exact Below.refl _ _ | assumption | refine below_drewN ?_ _ | refine Below.drew ?_ | refine Below.alloc ?_ (by first | omega | (simp; omega) | (simp; done) | (simp at *; omega)) _ | refine Below.setCell ?_ (by first | omega | (simp; omega) | (simp; done) | (simp at *; omega)) _ | refine Below.trans ?_ (Below.mono (by assumption) (by first | omega | (simp; omega) | (simp; done) | (simp at *; omega))))))).sl (by omega) (by omega)).mono ?_
    rintro z w1 ⟨rfl, hb1⟩
    rw [HZ.out]
    go_wp2_with fail
    go_ret
    exact ⟨rfl, by (repeat (first | exact Below.refl _ _ | assumption | refine below_drewN ?_ _ | refine Below.drew ?_ | refine Below.alloc ?_ (by first | omega | (simp; omega) | (simp; done) | (simp at *; omega)) _ | refine Below.setCell ?_ (by first | omega | (simp; omega) | (simp; done) | (simp at *; omega)) _ | refine Below.trans ?_ (Below.mono (by assumption) (by first | omega | (simp; omega) | (simp; done) | (simp at *; omega)))))⟩
set_option maxRecDepth 100000 in
theorem FnExactStoreSaved_lifted (os : Os) (started : os.Started) (H : Type) (enc : TypeId × Value → H) :
    ReturnsInHanded {} Try.checked os 4 .any (Rows.fnExactStoreSavedSpec.pre6 enc Try.prog Try.f4 Rows.fnExactStoreSavedRow.domain false) (Rows.fnExactStoreSavedSpec.post enc Try.prog Try.f4 false true false false) := by
  refine returnsInHanded_of_change (C := Try.checked) own started (by kernel_rfl) Try.func4
    (ChangeSpec.witness6 (enc := enc) (C := Try.checked) false ⟨#[], #[.agg #[.string ByteArray.empty, .int .i64 0, .slice none 0 0]], []⟩ 8 (by kernel_rfl) (by kernel_rfl) (by kernel_rfl) (by kernel_rfl)) ?_
  intro W base args ds gs before hval0 hW hcnd _
  have hval : ∀ (j : Nat) t v, Try.f4.params[j]? = some t → args[j]? = some v → Value.okWide Try.prog W .any base t v := hval0
  have hW' := hW
  obtain ⟨p, q, hA0, hV, rfl, hfz, hnd⟩ := hW
  have hA : DataW.TrodAll enc Try.prog W 0 (fun _ => true) true Try.f4.params.toList args.toList ds p := hA0
  rw [Try.params4] at hA hval
  obtain ⟨v0, vs0, d0, ds0, p0, q0, hargs, rfl, rfl, h0, r0⟩ := trodAll_cons hA
  obtain ⟨rfl, rfl, rfl⟩ := trodAll_nil r0
  obtain rfl : args = #[v0] := by cases args; simp_all
  obtain ⟨rfl, rfl⟩ := trodVars_none hV
  have k0 := h0
  have lt0 : ∀ x ∈ p0, x.block < W.heap.size := by obtain ⟨m, hm⟩ := k0; exact DataW.trod_lt m _ _ _ hm
  obtain ⟨vs0, n0, rfl, hl0, hg0⟩ := open_struct Try.underlying30 (by kernel_rfl) (by kernel_rfl) (hval 0 30 v0 rfl rfl) h0
  obtain ⟨u00, y00, e00, z00⟩ := hg0 0 _ rfl; obtain ⟨s0, q00, hs0⟩ := trod_string' Try.underlying9 z00; simp only [List.cons.injEq, and_true] at q00; subst q00
  obtain ⟨u01, y01, e01, z01⟩ := hg0 1 _ rfl; obtain ⟨d0', q01, hd0⟩ := trod_int' Try.underlying2 z01; simp only [List.cons.injEq, and_true] at q01; subst q01
  obtain ⟨u02, y02, e02, z02⟩ := hg0 2 _ rfl; obtain ⟨c0, hc0⟩ := open_f32s Try.underlying28 Try.underlying54 (by kernel_rfl) z02
  obtain rfl : vs0 = [.string s0, .int .i64 d0', u02] := three hl0 e00 e01 e02
  clear hA0 hval0
  refine (FnExactStoreSaved_walk (w := W) s0 hs0 d0' hd0 _ c0 hc0).mono fun e W' ⟨he, bel⟩ => ?_
  subst he
  exact ⟨_, rfl, _, _, _, [], _, [], hW', trodAll_mk1 (shut_bool Try.underlying4 _), (trodAll_cons_mk (Below.trod laidOut (by kernel_rfl) (of_decide_eq_true (by kernel_rfl)) k0 bel lt0) trodAll_mk0), rfl, bel.frame _, fun h => by cases h⟩

theorem fnExactStoreSaved_holds : Rows.FnExactStoreSavedSaid :=
  OpenClaim.holds_of_wide 4 Try.f4 rfl rfl rfl rfl rfl rfl rfl ⟨rfl, rfl, rfl, rfl, rfl⟩ rfl rfl rfl rfl rfl (by kernel_rfl) Try.func4 (by kernel_rfl)
    (of_decide_eq_true (by kernel_rfl)) (by unfold Func.isWrapper; first | (rw [if_pos (by decide +kernel)]; kernel_rfl) | (rw [if_neg (by decide +kernel)]; exact ⟨rfl, rfl⟩))
    (fun os started H enc _ => FnExactStoreSaved_lifted os started H enc)
#print axioms fnExactStoreSaved_holds

end Go.Proofs.Ytfckfdaloamkdaa
