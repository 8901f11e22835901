/- Contracts: sizes, copies and sameness of states, by the laws. -/
import Derived.Test.YtebahccjaieajaaDoorK103
import Derived.Test.YtebahccjaieajaaDoorK15
import Derived.Test.YtebahccjaieajaaDoorK9
import Derived.Test.YtebahccjaieajaaDoorS8
import Derived.Test.YtebahccjaieajaaDoorBk2
import Derived.Deep.RegionWith
import Derived.Deep.RegionHeld3
namespace Go.Proofs.YtebahccjaieajaaDoor
set_option linter.unusedSimpArgs false
set_option linter.unusedVariables false
set_option maxRecDepth 100000
set_option maxHeartbeats 4000000
open Go.RowKit
attribute [local go_sem] run_store_float run_store_complex alloc_drewN setCell_drewN
theorem BK.newAt {n : Nat} (w : World) (vs : List Value) (T : TypeId) (hn : n = w.heap.size) : BK (w.alloc (.cells vs.toArray T)) n vs := by subst hn; exact BK.new w vs T
theorem storeS (p j : Nat) (bo : Option Addr) (n c : Nat) : ∀ w, (Instr.storeAt 41 (.pointer (some ⟨p, j, none⟩)) (.slice bo n c)).run Tryd.prog w = (store ⟨p, j, none⟩ (.slice bo n c) .plain).run Tryd.prog w := by intro w; go_simp
theorem storeI (p j : Nat) (x : Int) : ∀ w, (Instr.storeAt 2 (.pointer (some ⟨p, j, none⟩)) (.int .i64 x)).run Tryd.prog w = (store ⟨p, j, none⟩ (.int .i64 x) .plain).run Tryd.prog w := by intro w; go_simp
theorem storeSt (p j l s : Nat) (bo : Option Addr) (n c : Nat) (x : Int) : ∀ w, (Instr.storeAt 46 (.pointer (some ⟨p, j, none⟩)) (.agg [.float .f32 l, .float .f32 s, .slice bo n c, .int .i64 x].toArray)).run Tryd.prog w = (storeCells ⟨p, j, none⟩ [.float .f32 l, .float .f32 s, .slice bo n c, .int .i64 x] 0).run Tryd.prog w := by intro w; go_simp
theorem eqw {x y c d : Nat} (h1 : Hid (cn .f64 x = wd c)) (h2 : Hid (cn .f64 y = wd d)) (h : c = d) : cn .f64 x = cn .f64 y := by rw [h1.out, h2.out, h]

theorem l_szFloat32S (v : Value) (cs : List Nat) (left : Int) (w : World) (hv : SL w v cs) (h0 : 0 ≤ left) (h1 : left ≤ 1048576) :
    Calls Tryd.prog 49 #[v, .int .i64 left] w fun e w' => e = .returned (.int .i64 (if (cs.length : Int) ≤ left then left - cs.length else -1)) ∧ Dr w w' := by
  obtain ⟨ao, c, rfl, hlen⟩ := hv.slice
  by_cases h : (cs.length : Int) ≤ left
  all_goals
    go_enter Tryd.func49, Tryd.ntmps49
    go_wp2_with fail
    go_ret
    refine ⟨ret_int ?_, Dr.refl _⟩
    first | rfl | (simp [h]; done) | (simp; omega)

theorem l_eqState (a0 a1 b0 b1 : Nat) (u v : Value) (cs : List Nat) (at_ : Int) (h0 : cn .f32 a0 = cn .f32 b0) (h1 : cn .f32 a1 = cn .f32 b1) (w : World) (hu : SL w u cs) (hv : SL w v cs) :
    Calls Tryd.prog 27 #[.agg #[.float .f32 a0, .float .f32 a1, u, .int .i64 at_], .agg #[.float .f32 b0, .float .f32 b1, v, .int .i64 at_]] w fun z w' => z = .returned (.bool true) ∧ Below w.heap.size w w' := by
  have H0 := Lib.hid h0
  have H1 := Lib.hid h1
  have HU := Lib.hid hu
  have HV := Lib.hid hv
  obtain ⟨ao, c, rfl, hlen⟩ := hu.slice
  obtain ⟨bo, d, rfl, hlen2⟩ := hv.slice
  clear h0 h1 hu hv
  go_enter Tryd.func27, Tryd.ntmps27
  go_wp2_with (first
    | (refine wpList_wd (by kernel_rfl) (by kernel_rfl) _ rfl ?_; intro r n hr hlt; have HR := Lib.hid hr; clear hr)
    | (go_at_call 54; refine (l_sameFloat _ _ (by first
        | exact eqw (by assumption) (by assumption) H0.out | exact eqw (by assumption) (by assumption) H1.out) _).mono ?_; rintro z w1 ⟨rfl, n1, rfl⟩)
    | (go_at_call 55; refine (l_eqFloat32S _ _ cs _ (SL.keep HU.out (by (repeat (first | with_reducible exact Below.refl _ _ | with_reducible assumption | with_reducible refine below_drewN ?_ _ | with_reducible refine Below.drew ?_ | with_reducible refine Below.alloc ?_ (by first | omega | (simp; omega) | (simp; done) | (simp at *; omega)) _ | with_reducible refine Below.setCell ?_ (by first | omega | (simp; omega) | (simp; done) | (simp at *; omega)) _ | refine Below.trans ?_ (Below.mono (by with_reducible assumption) (by first | omega | (simp; omega) | (simp; done) | (simp at *; omega))))))) (SL.keep HV.out (by (repeat (first | with_reducible exact Below.refl _ _ | with_reducible assumption | with_reducible refine below_drewN ?_ _ | with_reducible refine Below.drew ?_ | with_reducible refine Below.alloc ?_ (by first | omega | (simp; omega) | (simp; done) | (simp at *; omega)) _ | with_reducible refine Below.setCell ?_ (by first | omega | (simp; omega) | (simp; done) | (simp at *; omega)) _ | refine Below.trans ?_ (Below.mono (by with_reducible assumption) (by first | omega | (simp; omega) | (simp; done) | (simp at *; omega)))))))).mono ?_; rintro z w1 ⟨rfl, n1, rfl⟩))
  go_ret
  refine ⟨rfl, ?_⟩
  (repeat (first | with_reducible exact Below.refl _ _ | with_reducible assumption | with_reducible refine below_drewN ?_ _ | with_reducible refine Below.drew ?_ | with_reducible refine Below.alloc ?_ (by first | omega | (simp; omega) | (simp; done) | (simp at *; omega)) _ | with_reducible refine Below.setCell ?_ (by first | omega | (simp; omega) | (simp; done) | (simp at *; omega)) _ | refine Below.trans ?_ (Below.mono (by with_reducible assumption) (by first | omega | (simp; omega) | (simp; done) | (simp at *; omega)))))

theorem l_toState (l s : Nat) (v : Value) (cs : List Nat) (at_ : Int) (w : World) (hv : SB w v cs) (hn : cs.length < 1099511627776) :
    Calls Tryd.prog 25 #[.agg #[.float .f32 l, .float .f32 s, v, .int .i64 at_]] w fun z w' => (∃ u, z = .returned (.agg #[.float .f32 l, .float .f32 s, u, .int .i64 at_]) ∧ OW 34 w.heap.size w' u cs) ∧ Below w.heap.size w w' := by
  obtain ⟨ao, c, rfl, hlen⟩ := hv.slice
  have HV := Lib.hid hv
  clear hv
  go_enter Tryd.func25, Tryd.ntmps25
  go_wp2_with (first
    | (go_at_call 52; refine (l_toFloat32S _ cs _ (SB.keep HV.out (by (repeat (first | with_reducible exact Below.refl _ _ | with_reducible assumption | with_reducible refine below_drewN ?_ _ | with_reducible refine Below.drew ?_ | with_reducible refine Below.alloc ?_ (by first | omega | (simp; omega) | (simp; done) | (simp at *; omega)) _ | with_reducible refine Below.setCell ?_ (by first | omega | (simp; omega) | (simp; done) | (simp at *; omega)) _ | refine Below.trans ?_ (Below.mono (by with_reducible assumption) (by first | omega | (simp; omega) | (simp; done) | (simp at *; omega))))))) hn).mono ?_; rintro z w1 ⟨u, rfl, hu, hb1⟩; obtain ⟨bo, cc, rfl, hcc⟩ := hu.sb.slice; have HU := Lib.hid hu; have hz1 := hb1.size; (try simp only [World.size_alloc] at hz1); have HB := Lib.hid (BK.keep (BK.newAt (n := w.heap.size + 1 + 1) _ _ _ (by simp)) hb1); have HE := Lib.hid (BK.keep (BK.alloc (BK.newAt (n := w.heap.size + 1) _ _ _ (by simp)) _) hb1); have HA := Lib.hid (BK.keep (BK.alloc (BK.alloc (BK.newAt (n := w.heap.size) _ _ _ (by simp)) _) _) hb1); have hbw : Below w.heap.size w w1 := (by (repeat (first | with_reducible exact Below.refl _ _ | with_reducible assumption | with_reducible refine below_drewN ?_ _ | with_reducible refine Below.drew ?_ | with_reducible refine Below.alloc ?_ (by first | omega | (simp; omega) | (simp; done) | (simp at *; omega)) _ | with_reducible refine Below.setCell ?_ (by first | omega | (simp; omega) | (simp; done) | (simp at *; omega)) _ | refine Below.trans ?_ (Below.mono (by with_reducible assumption) (by first | omega | (simp; omega) | (simp; done) | (simp at *; omega)))))); clear hb1 hu; simp only [World.size_alloc] at HU; have hcb := HB.out.cells; have hfb := HB.out.fro; have hce := HE.out.cells; have hfe := HE.out.fro; have hca := HA.out.cells)
    | (refine wpList_storeBK3 (storeS _ _ _ _ _) rfl rfl rfl HB.out (by simp) ?_; intro W hB hO hL hZ hG; replace HE := Lib.hid (hO _ _ HE.out (by simp)); replace HA := Lib.hid (hO _ _ HA.out (by simp; try omega)); replace hbw := hL _ _ hbw (by omega); replace HU := Lib.hid (OW.grown_keep HU.out hG (fun g e => by injection e with e; (try simp at *); omega)); replace HB := Lib.hid hB; clear hB hO hL hG; clear hcb hfb hce hfe hca; simp only [List.set_cons_zero, List.set_cons_succ] at HB; have hcb := HB.out.cells; have hfb := HB.out.fro; have hce := HE.out.cells; have hfe := HE.out.fro; have hca := HA.out.cells) | (refine wpList_storeBK3 (storeI _ _ _) rfl rfl rfl HB.out (by simp) ?_; intro W hB hO hL hZ hG; replace HE := Lib.hid (hO _ _ HE.out (by simp)); replace HA := Lib.hid (hO _ _ HA.out (by simp; try omega)); replace hbw := hL _ _ hbw (by omega); replace HU := Lib.hid (OW.grown_keep HU.out hG (fun g e => by injection e with e; (try simp at *); omega)); replace HB := Lib.hid hB; clear hB hO hL hG; clear hcb hfb hce hfe hca; simp only [List.set_cons_zero, List.set_cons_succ] at HB; have hcb := HB.out.cells; have hfb := HB.out.fro; have hce := HE.out.cells; have hfe := HE.out.fro; have hca := HA.out.cells) | (refine wpList_storeAgg (us := [.float .f32 _, .float .f32 _, .slice _ _ _, .int .i64 _]) (storeSt _ _ _ _ _ _ _ _) rfl rfl (by simp [Value.oneCell']) HE.out (by simp) ?_; intro W hE hO hL hZ hG; replace hbw := hL _ _ hbw (by omega); replace HU := Lib.hid (OW.grown_keep HU.out hG (fun g e => by injection e with e; (try simp at *); omega)); replace HE := Lib.hid hE; clear hE hO hL hG HB HA; clear hcb hfb hce hfe hca; simp [setsAt] at HE; have hce := HE.out.cells; have hfe := HE.out.fro))
  (try simp only [Exit.inBlock, Exit.then])
  refine bodyPost_ret (by simp [results, Tryd.results25, go_sem, hce]; try rfl) rfl ⟨⟨_, rfl, ?_⟩, hbw⟩
  exact HU.out.down (by omega)

theorem l_szState (l s : Nat) (v : Value) (cs : List Nat) (at_ left : Int) (w : World) (hv : SL w v cs) (h0 : 0 ≤ left) (h1 : left ≤ 1048576) :
    Calls Tryd.prog 23 #[.agg #[.float .f32 l, .float .f32 s, v, .int .i64 at_], .int .i64 left] w fun e w' => e = .returned (.int .i64 (if (cs.length : Int) ≤ left then left - cs.length else -1)) ∧ Below w.heap.size w w' := by
  obtain ⟨ao, c, rfl, hlen⟩ := hv.slice
  have HV := Lib.hid hv
  clear hv
  by_cases hn : (cs.length : Int) ≤ left
  all_goals
    go_enter Tryd.func23, Tryd.ntmps23
    go_wp2_with (go_at_call 49; refine (l_szFloat32S _ cs _ _ (SL.keep HV.out (by (repeat (first | with_reducible exact Below.refl _ _ | with_reducible assumption | with_reducible refine below_drewN ?_ _ | with_reducible refine Below.drew ?_ | with_reducible refine Below.alloc ?_ (by first | omega | (simp; omega) | (simp; done) | (simp at *; omega)) _ | with_reducible refine Below.setCell ?_ (by first | omega | (simp; omega) | (simp; done) | (simp at *; omega)) _ | refine Below.trans ?_ (Below.mono (by with_reducible assumption) (by first | omega | (simp; omega) | (simp; done) | (simp at *; omega))))))) h0 h1).mono ?_; rintro z w1 ⟨rfl, n1, rfl⟩)
    all_goals
      go_ret
      refine ⟨ret_int ?_, by (repeat (first | with_reducible exact Below.refl _ _ | with_reducible assumption | with_reducible refine below_drewN ?_ _ | with_reducible refine Below.drew ?_ | with_reducible refine Below.alloc ?_ (by first | omega | (simp; omega) | (simp; done) | (simp at *; omega)) _ | with_reducible refine Below.setCell ?_ (by first | omega | (simp; omega) | (simp; done) | (simp at *; omega)) _ | refine Below.trans ?_ (Below.mono (by with_reducible assumption) (by first | omega | (simp; omega) | (simp; done) | (simp at *; omega)))))⟩
      first | rfl | omega | (split <;> omega)
/-- The size of a desk's slices, taken from what is left. -/
def szD (m n : Nat) (left : Int) : Int := if (m : Int) + n ≤ left then left - m - n else -1

end Go.Proofs.YtebahccjaieajaaDoor
