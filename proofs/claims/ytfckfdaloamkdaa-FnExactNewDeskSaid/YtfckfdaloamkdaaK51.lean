/- Contracts: the desk at the beginning, marked and held. -/
import Derived.Test.YtfckfdaloamkdaaK50
namespace Go.Proofs.Ytfckfdaloamkdaa
set_option maxRecDepth 100000
set_option maxHeartbeats 4000000
set_option linter.unusedSimpArgs false
set_option linter.unusedVariables false
open Go.RowKit
attribute [local go_sem] run_store_float run_store_complex alloc_drewN setCell_drewN

theorem BK.grown {w w' : World} {q : Nat} {vs : List Value} {row : Option Nat} (h : BK w q vs) (hg : w.grownBy w' row) (hne : row ≠ some q) : BK w' q vs := by
  have hb : w'.heap[q]? = w.heap[q]? := hg.block q h.lt (fun e => hne e.symm)
  refine ⟨Nat.lt_of_lt_of_le h.lt hg.size, fun i hi => ?_, fun i => ?_⟩
  · rw [← h.cells i hi]; unfold World.cell?; simp only [hb]
  · rw [← h.fro i]; unfold World.frozen?; simp only [hb]

theorem l_markState (lo l s : Nat) (u : Value) (cs : List Nat) (x k : Int) (w : World) (hu : OW 54 lo w u cs) (h0 : 0 ≤ k) (h1 : k ≤ 1000000000) (hn : cs.length < 1000) :
    Calls Try.prog 78 #[.agg #[.float .f32 l, .float .f32 s, u, .int .i64 x], .int .i64 k] w fun e w' => e = .returned (.int .i64 (k + cs.length)) ∧ OW 54 lo w' u (markL k cs.length) ∧ w.grownBy w' u.ownBlock := by
  obtain ⟨bo, c, rfl, hq⟩ := hu.sb.sl.slice
  have HU := Lib.hid hu
  clear hu
  go_enter Try.func78, Try.ntmps78
  go_wp2_with (go_at_call 65; refine (l_markFloat32S lo _ cs k _ (OW.alloc HU.out _) h0 (by omega) (by omega)).mono ?_; rintro z w1 ⟨rfl, ho, hg⟩; have HO := Lib.hid ho; clear ho)
  go_ret
  exact ⟨rfl, HO.out, grown_trans (grown_of_below ((Below.refl _ _).alloc (Nat.le_refl _) _) _) hg⟩

theorem l_heldState (l s : Nat) (u : Value) (n : Nat) (x k : Int) (w : World) (hu : SL w u (markL k n)) (h0 : 0 ≤ k) (h1 : k ≤ 1000000000) (hn : n < 1000) :
    Calls Try.prog 79 #[.agg #[.float .f32 l, .float .f32 s, u, .int .i64 x], .int .i64 k] w fun e w' => e = .returned (.int .i64 (k + n)) ∧ Below w.heap.size w w' := by
  obtain ⟨bo, c, rfl, hq⟩ := hu.slice
  have HU := Lib.hid hu
  have hk : ¬ k + (n : Int) < 0 := by omega
  clear hu
  go_enter Try.func79, Try.ntmps79
  go_wp2_with (go_at_call 66; refine (l_heldFloat32S _ k n _ (SL.keep HU.out (by (repeat (first | with_reducible exact Below.refl _ _ | with_reducible assumption | with_reducible refine below_drewN ?_ _ | with_reducible refine Below.drew ?_ | with_reducible refine Below.alloc ?_ (by first | omega | (simp; omega) | (simp; done) | (simp at *; omega)) _ | with_reducible refine Below.setCell ?_ (by first | omega | (simp; omega) | (simp; done) | (simp at *; omega)) _ | refine Below.trans ?_ (Below.mono (by with_reducible assumption) (by first | omega | (simp; omega) | (simp; done) | (simp at *; omega))))))) h0 (by omega) (by omega)).mono ?_; rintro z w1 ⟨rfl, n1, rfl⟩)
  go_ret
  exact ⟨rfl, by (repeat (first | with_reducible exact Below.refl _ _ | with_reducible assumption | with_reducible refine below_drewN ?_ _ | with_reducible refine Below.drew ?_ | with_reducible refine Below.alloc ?_ (by first | omega | (simp; omega) | (simp; done) | (simp at *; omega)) _ | with_reducible refine Below.setCell ?_ (by first | omega | (simp; omega) | (simp; done) | (simp at *; omega)) _ | refine Below.trans ?_ (Below.mono (by with_reducible assumption) (by first | omega | (simp; omega) | (simp; done) | (simp at *; omega)))))⟩

theorem l_markDesk (lo l s : Nat) (t u : Value) (cs ds : List Nat) (x : Int) (a b c d : Nat) (y k : Int) (w : World) (ht : OW 54 lo w t cs) (hu : OW 54 lo w u ds) (hne : t.ownBlock ≠ u.ownBlock) (h0 : 0 ≤ k) (h1 : k ≤ 1000000) (hn : cs.length < 1000) (hm : ds.length < 1000) :
    Calls Try.prog 41 #[.agg #[t, .float .f32 l, .float .f32 s, u, .int .i64 x, .float .f32 a, .float .f32 b, .float .f32 c, .float .f32 d, .int .i64 y], .int .i64 k] w fun e w' => e = .returned (.int .i64 (k + cs.length + ds.length)) ∧ OW 54 lo w' t (markL k cs.length) ∧ OW 54 lo w' u (markL (k + cs.length) ds.length) ∧ ∃ wm, w.grownBy wm t.ownBlock ∧ wm.grownBy w' u.ownBlock := by
  obtain ⟨bo, bc, rfl, hq⟩ := ht.sb.sl.slice
  obtain ⟨eo, ec, rfl, hq2⟩ := hu.sb.sl.slice
  have HT := Lib.hid ht
  have HU := Lib.hid hu
  have HNE := Lib.hid hne
  clear ht hu hne
  go_enter Try.func41, Try.ntmps41
  go_wp2_with (first
    | (go_at_call 65; refine (l_markFloat32S lo _ cs k _ (OW.alloc HT.out _) h0 (by omega) (by omega)).mono ?_; rintro z w1 ⟨rfl, ho, hg⟩; have HO := Lib.hid ho; have HU1 := Lib.hid (OW.kept (OW.alloc HU.out _) hg (.inr (Ne.symm HNE.out))); have HB := Lib.hid (BK.grown (BK.new w _ _) hg (by intro e; have := OW.low HT.out (Nat.le_refl _) _ e; omega)); have hcb := HB.out.cells; have hg1 := grown_trans (grown_of_below ((Below.refl w.heap.size w).alloc (Nat.le_refl _) _) _) hg; clear ho hg)
    | (go_at_call 78; refine (l_markState lo _ _ _ ds _ _ _ HU1.out (by omega) (by omega) hm).mono ?_; rintro z w2 ⟨rfl, ho2, hg2⟩; have HO2 := Lib.hid (OW.kept HO.out hg2 (.inr HNE.out)); have HU2 := Lib.hid ho2; clear ho2))
  go_ret
  exact ⟨rfl, HO2.out, HU2.out, w1, hg1, hg2⟩

theorem l_heldDesk (l s : Nat) (t u : Value) (n m : Nat) (x : Int) (a b c d : Nat) (y k : Int) (w : World) (ht : SL w t (markL k n)) (hu : SL w u (markL (k + n) m)) (h0 : 0 ≤ k) (h1 : k ≤ 1000000) (hn : n < 1000) (hm : m < 1000) :
    Calls Try.prog 42 #[.agg #[t, .float .f32 l, .float .f32 s, u, .int .i64 x, .float .f32 a, .float .f32 b, .float .f32 c, .float .f32 d, .int .i64 y], .int .i64 k] w fun e w' => e = .returned (.int .i64 (k + n + m)) ∧ Below w.heap.size w w' := by
  obtain ⟨bo, bc, rfl, hq⟩ := ht.slice
  obtain ⟨eo, ec, rfl, hq2⟩ := hu.slice
  have HT := Lib.hid ht
  have HU := Lib.hid hu
  have hk : ¬ k + (n : Int) < 0 := by omega
  have hk2 : ¬ k + (n : Int) + m < 0 := by omega
  clear ht hu
  go_enter Try.func42, Try.ntmps42
  go_wp2_with (first
    | (go_at_call 66; refine (l_heldFloat32S _ k n _ (SL.keep HT.out (by (repeat (first | with_reducible exact Below.refl _ _ | with_reducible assumption | with_reducible refine below_drewN ?_ _ | with_reducible refine Below.drew ?_ | with_reducible refine Below.alloc ?_ (by first | omega | (simp; omega) | (simp; done) | (simp at *; omega)) _ | with_reducible refine Below.setCell ?_ (by first | omega | (simp; omega) | (simp; done) | (simp at *; omega)) _ | refine Below.trans ?_ (Below.mono (by with_reducible assumption) (by first | omega | (simp; omega) | (simp; done) | (simp at *; omega))))))) h0 (by omega) (by omega)).mono ?_; rintro z w1 ⟨rfl, n1, rfl⟩)
    | (go_at_call 79; refine (l_heldState _ _ _ m _ _ _ (SL.keep HU.out (by (repeat (first | with_reducible exact Below.refl _ _ | with_reducible assumption | with_reducible refine below_drewN ?_ _ | with_reducible refine Below.drew ?_ | with_reducible refine Below.alloc ?_ (by first | omega | (simp; omega) | (simp; done) | (simp at *; omega)) _ | with_reducible refine Below.setCell ?_ (by first | omega | (simp; omega) | (simp; done) | (simp at *; omega)) _ | refine Below.trans ?_ (Below.mono (by with_reducible assumption) (by first | omega | (simp; omega) | (simp; done) | (simp at *; omega))))))) (by omega) (by omega) hm).mono ?_; rintro z w2 ⟨rfl, hb2⟩))
  go_ret
  exact ⟨rfl, by (repeat (first | with_reducible exact Below.refl _ _ | with_reducible assumption | with_reducible refine below_drewN ?_ _ | with_reducible refine Below.drew ?_ | with_reducible refine Below.alloc ?_ (by first | omega | (simp; omega) | (simp; done) | (simp at *; omega)) _ | with_reducible refine Below.setCell ?_ (by first | omega | (simp; omega) | (simp; done) | (simp at *; omega)) _ | refine Below.trans ?_ (Below.mono (by with_reducible assumption) (by first | omega | (simp; omega) | (simp; done) | (simp at *; omega)))))⟩

set_option maxRecDepth 100000 in
theorem i_NewDesk (w : World) : Calls Try.prog 39 #[] w fun z w' => (∃ t u r0 r1, z = .returned (.agg #[t, .float .f32 r0, .float .f32 r1, u, .int .i64 0, .float .f32 1056964608, .float .f32 1056964608, .float .f32 0, .float .f32 1065353216, .int .i64 0]) ∧ cn .f32 r0 = 1065353216 ∧ cn .f32 r1 = 1073741824 ∧ OW 54 w.heap.size w' t (nd4.map (cn .f32)) ∧ OW 54 w.heap.size w' u [0] ∧ t.ownBlock ≠ u.ownBlock) ∧ Below w.heap.size w w' := by
  go_enter Try.func39, Try.ntmps39
  go_wp2_with (first
    | (go_at_call 75; (refine (i_startState (w.heap.size + 1) 0 4 _ (SB.lit _ nd4 _ _ (by simp [nd4]) (by simp [nd4]) rfl (by simp)) (by omega) (by omega)).mono ?_; rintro z w1 ⟨⟨r0, r1, u, rfl, h0, h1, e0, e1, hu⟩, hb1⟩; obtain ⟨uo, uc, rfl, hq⟩ := hu.sb.sl.slice; clear hq; have HT := Lib.hid (OW.keep (OW.lit _ nd4 54 (by simp [nd4]) (by simp [nd4]) rfl (n := w.heap.size + 1) (by simp) (lo := w.heap.size) (by simp)) hb1); have HA := Lib.hid (BK.keep (BK.alloc (BK.newAt (n := w.heap.size) _ _ _ rfl) _) hb1); have hbw : Below w.heap.size w w1 := (by (repeat (first | with_reducible exact Below.refl _ _ | with_reducible assumption | with_reducible refine below_drewN ?_ _ | with_reducible refine Below.drew ?_ | with_reducible refine Below.alloc ?_ (by first | omega | (simp; omega) | (simp; done) | (simp at *; omega)) _ | with_reducible refine Below.setCell ?_ (by first | omega | (simp; omega) | (simp; done) | (simp at *; omega)) _ | refine Below.trans ?_ (Below.mono (by with_reducible assumption) (by first | omega | (simp; omega) | (simp; done) | (simp at *; omega)))))); have HU := Lib.hid hu; have hz1 := hb1.size; (try simp only [World.size_alloc] at hz1 HU); have HE0 := Lib.hid e0; have HE1 := Lib.hid e1; clear e0 e1 hu hb1; have hca := HA.out.cells; have hfa := HA.out.fro))
    | ((refine wpList_storeAgg (us := [.slice _ _ _, .float .f32 _, .float .f32 _, .slice _ _ _, .int .i64 _, .float .f32 _, .float .f32 _, .float .f32 _, .float .f32 _, .int .i64 _]) (storeDk _ _ _ _ _ _ _ _ _ _ _ _ _ _ _ _) rfl rfl (by simp [Value.oneCell']) HA.out (by simp) ?_; intro W hB hO hL hZ hG; have HA2 := Lib.hid hB; have hbw2 := hL _ _ hbw (Nat.le_refl _); have HT2 := Lib.hid (OW.kept HT.out hG (.inr (by simp [Value.ownBlock]))); have HU2 := Lib.hid (OW.grown_keep HU.out hG (fun g e => by injection e with e; omega)); clear hB hO hL hG hca hfa; simp [setsAt] at HA2; have hca := HA2.out.cells)))
  (try simp only [Exit.inBlock, Exit.then])
  refine bodyPost_ret (v := .agg #[.slice (some ⟨w.heap.size + 1, 0, none⟩) 4 4, .float .f32 r0, .float .f32 r1, .slice uo 1 uc, .int .i64 0, .float .f32 1056964608, .float .f32 1056964608, .float .f32 0, .float .f32 1065353216, .int .i64 0]) (by simp [results, Try.results39, go_sem, hca]) rfl ⟨⟨_, _, _, _, rfl, HE0.out, HE1.out, HT2.out, OW.down HU2.out (by omega), ?_⟩, hbw2⟩
  intro e
  have h1 := (HU2.out.block (w.heap.size + 1) e.symm).1
  omega

set_option maxRecDepth 100000 in
theorem s_NewDesk (w : World) : Calls Try.prog 38 #[] w fun z w' => (∃ t u, z = .returned (.agg #[t, .float .f32 1065353216, .float .f32 1073741824, u, .int .i64 0, .float .f32 1056964608, .float .f32 1056964608, .float .f32 0, .float .f32 1065353216, .int .i64 0]) ∧ SB w' t (nd4.map (cn .f32)) ∧ SB w' u [0]) ∧ Below w.heap.size w w' := by
  go_enter Try.func38, Try.ntmps38
  go_wp2_with fail
  go_returns
  refine ⟨⟨_, _, rfl, ?_, ?_⟩, by (repeat (first | with_reducible exact Below.refl _ _ | with_reducible assumption | with_reducible refine below_drewN ?_ _ | with_reducible refine Below.drew ?_ | with_reducible refine Below.alloc ?_ (by first | omega | (simp; omega) | (simp; done) | (simp at *; omega)) _ | with_reducible refine Below.setCell ?_ (by first | omega | (simp; omega) | (simp; done) | (simp at *; omega)) _ | refine Below.trans ?_ (Below.mono (by with_reducible assumption) (by first | omega | (simp; omega) | (simp; done) | (simp at *; omega)))))⟩
  · refine ⟨_, _, nd4, rfl, rfl, by simp [nd4], by simp [nd4], fun i hi => ⟨w.heap.size + 1, 0, rfl, by simp, ?_⟩⟩
    have hi4 : i < 4 := hi
    have hi5 : i = 0 ∨ i = 1 ∨ i = 2 ∨ i = 3 := by omega
    rcases hi5 with rfl | rfl | rfl | rfl <;> (simp [nd4]; try go_simp)
  · exact SB.lit _ [0] _ _ (by simp) (by simp) rfl (by simp)

end Go.Proofs.Ytfckfdaloamkdaa
