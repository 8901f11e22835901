/- Contracts: marks of states, by the laws. -/
import Derived.Test.YtebahccjaieajaaGreatDoorK123
import Derived.Test.YtebahccjaieajaaGreatDoorK15
namespace Go.Proofs.YtebahccjaieajaaGreatDoor
set_option linter.unusedSimpArgs false
set_option linter.unusedVariables false
set_option maxRecDepth 100000
set_option maxHeartbeats 4000000
open Go.RowKit
theorem Wi.any {lo hi : Nat} {w w' : World} (h : Below w.heap.size w w') : Wi lo hi w w' := ⟨h.os, h.tape, h.output, h.size, fun k hk _ => h.block k hk⟩
theorem BK.wi' {lo hi : Nat} {w w' : World} {p : Nat} {vs : List Value} (h : BK w p vs) (hw : Wi lo hi w w') (hp : p < lo ∨ hi ≤ p) : BK w' p vs := by
  have hb := hw.block p h.lt hp
  refine ⟨Nat.lt_of_lt_of_le h.lt hw.size, fun i hi => ?_, fun i => ?_⟩
  · have h1 := h.cells i hi
    rw [← h1]
    simp only [World.cell?, hb]
  · have h1 := h.fro i
    rw [← h1]
    simp only [World.frozen?, hb]
theorem rstQ_len (t : List UInt8) : ((rstQ t).getD (0, 0, [], 0)).2.2.1.length < 1000000 := by
  cases h : rstQ t with
  | none => simp
  | some q =>
    obtain ⟨l, s, ns, x⟩ := q
    show ns.length < 1000000
    rw [rstQ] at h
    split at h
    · split at h
      · split at h
        · rename_i hs
          injection h with h
          injection h with _ h
          injection h with _ h
          injection h with h _
          subst h
          rw [stateB] at hs
          simp only [Bool.and_eq_true, decide_eq_true_eq, List.length_map] at hs
          omega
        · cases h
      · cases h
    · cases h

theorem l_markState (lo hi : Nat) (l s : Nat) (v : Value) (cs : List Nat) (x k : Int) (w : World) (hv : FW 22 lo hi w v cs) (h0 : 0 ≤ k) (h1 : k ≤ 1000000000000) (hn : cs.length < 1099511627776) :
    Calls Tryz.prog 7 #[.agg #[.float .f32 l, .float .f32 s, v, .int .i64 x], .int .i64 k] w fun e w' => e = .returned (.int .i64 (k + cs.length)) ∧ FW 22 lo hi w' v (markL k cs.length) ∧ Wi lo hi w w' := by
  obtain ⟨ao, c, rfl, hc⟩ := hv.sl.slice
  have HBA := Lib.hid (show Below w.heap.size w (w.alloc (.cells #[.float .f32 l, .float .f32 s, .slice ao cs.length c, .int .i64 x] 25)) from (Below.refl _ _).alloc (Nat.le_refl _) _)
  have HV := Lib.hid (hv.keep (Wi.of_below HBA.out) (by omega))
  clear hv
  go_enter Tryz.func7, Tryz.ntmps7
  go_wp2_with fail
  refine (l_markFW lo hi _ cs k _ HV.out h0 h1 hn).mono ?_; rintro e w1 ⟨rfl, hf, hw⟩
  have HF := Lib.hid hf
  have HW := Lib.hid ((Wi.any HBA.out).trans hw)
  clear hf hw
  go_wp2_with fail
  go_ret
  exact ⟨rfl, HF.out, HW.out⟩

theorem l_heldState (l s : Nat) (v : Value) (n : Nat) (x k : Int) (w : World) (hv : SL w v (markL k n)) (h0 : 0 ≤ k) (h1 : k ≤ 1000000000000) (hn : n < 1099511627776) :
    Calls Tryz.prog 8 #[.agg #[.float .f32 l, .float .f32 s, v, .int .i64 x], .int .i64 k] w fun e w' => e = .returned (.int .i64 (k + n)) ∧ Below w.heap.size w w' := by
  obtain ⟨ao, c, rfl, hc⟩ := hv.slice
  rw [markL_length]
  have HBA := Lib.hid (show Below w.heap.size w (w.alloc (.cells #[.float .f32 l, .float .f32 s, .slice ao n c, .int .i64 x] 25)) from (Below.refl _ _).alloc (Nat.le_refl _) _)
  have HV := Lib.hid (hv.keep HBA.out)
  rw [markL_length] at HV
  have hge : ¬ (k + (n : Int)) < 0 := by omega
  clear hv
  go_enter Tryz.func8, Tryz.ntmps8
  go_wp2_with fail
  refine (l_heldFloat32S _ k n _ HV.out h0 h1 hn).mono ?_; rintro e w1 ⟨rfl, hd⟩
  have hb := HBA.out.trans ((hd.below _).mono HBA.out.size)
  go_wp2_with fail
  go_ret
  exact ⟨rfl, hb⟩

end Go.Proofs.YtebahccjaieajaaGreatDoor
