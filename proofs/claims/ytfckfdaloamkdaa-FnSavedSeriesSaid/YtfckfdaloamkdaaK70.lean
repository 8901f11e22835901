/- Contracts: lists of what is saved: their sizes, copies, comparison. -/
import Derived.Test.YtfckfdaloamkdaaSv
import Derived.Deep.RegionHeld3
import Derived.Test.YtfckfdaloamkdaaK27
namespace Go.Proofs.Ytfckfdaloamkdaa
set_option linter.unusedSimpArgs false
set_option linter.unusedVariables false
set_option maxRecDepth 100000
set_option maxHeartbeats 4000000
open Go.RowKit
attribute [local go_sem] run_store_float run_store_complex alloc_drewN setCell_drewN


theorem l_szSavedS (v : Value) (L : List Sd) (left : Int) (w : World) (hv : SVL w v L) (h0 : 0 ≤ left) (h1 : left ≤ 1048576) :
    Calls Try.prog 14 #[v, .int .i64 left] w fun e w' => e = .returned (.int .i64 (szL L left)) ∧ Below w.heap.size w w' := by
  obtain ⟨ao, c, rfl, hc1, hc2⟩ := hv.slice
  have HC := Lib.hid (hv.get rfl)
  clear hv
  have hs := szP_len L
  by_cases hb : (L.length : Int) ≤ left
  · have j1 : IntKind.i64.wrap (left - (L.length : Int)) = left - (L.length : Int) := by rw [IntKind.wrap_i64]; omega
    go_enter Try.func14, Try.ntmps14
    go_wp2_with fail
    go_loopw [1, 5] (fun lf i wr => ∃ k : Nat, k ≤ L.length ∧ i = .int .i64 k ∧ lf = .int .i64 (left - szP L k) ∧ (szP L k : Int) ≤ left ∧ Below w.heap.size w wr) (fun _ i _ => L.length - (intOf i).toNat)
    case atStart => exact ⟨0, Nat.zero_le _, rfl, rfl, by simpa [szP] using hb, Below.refl _ _⟩
    case round =>
      obtain ⟨k, hk, rfl, rfl, hle, hbw⟩ := hrel
      clear j1
      by_cases hlt : k < L.length
      · obtain ⟨b, off, u, rfl, hbl, g0, g1, g2, g3, g4⟩ := HC.out k hlt
        have hm := szP_elem L hlt
        have q0 := (hbw.cell (p := ⟨b, off + k * 3, none⟩) hbl).trans g0
        have q1 := (hbw.cell (p := ⟨b, off + k * 3 + 1, none⟩) hbl).trans g1
        have q2 := (hbw.cell (p := ⟨b, off + k * 3 + 2, none⟩) hbl).trans g2
        have G3 := Lib.hid (g3.keep hbw)
        have HM := Lib.hid (show szP L (k + 1) = szP L k + (L.getD k d0).1.size + (L.getD k d0).2.2.length by simp [szP, szE, Nat.add_assoc])
        have HT := Lib.hid (szP_mono L (show k + 1 ≤ L.length from hlt))
        clear g0 g1 g2 g3
        obtain ⟨s, hs0⟩ : ∃ s, s = (L.getD k d0).1 := ⟨_, rfl⟩
        obtain ⟨d, hd0⟩ : ∃ d, d = (L.getD k d0).2.1 := ⟨_, rfl⟩
        obtain ⟨cs, hc0⟩ : ∃ cs, cs = (L.getD k d0).2.2 := ⟨_, rfl⟩
        rw [← hs0] at q0 g4 HM
        rw [← hd0] at q1
        rw [← hc0] at G3 HM
        clear hs0 hd0 hc0 hm
        obtain ⟨uo, uc, rfl, hul⟩ := G3.out.slice
        by_cases hf : (s.size : Int) + cs.length ≤ left - szP L k
        all_goals
          go_wp2_with (go_at_call 19; refine (l_szSaved s g4 d _ cs _ _ G3.out.sl (by omega) (by omega)).mono ?_; rintro z w1 ⟨rfl, hb1⟩; first | rw [show szV s cs.length (left - szP L k) = left - szP L k - s.size - cs.length from if_pos hf] | rw [show szV s cs.length (left - szP L k) = -1 from if_neg hf])
        · refine ⟨⟨k + 1, by omega, by go_num, ?_, ?_, hbw.trans (hb1.mono hbw.size)⟩, by simp [intOf]; omega⟩
          · rw [HM.out]; congr 1; omega
          · rw [HM.out]; omega
        · go_ret
          refine ⟨ret_int ?_, hbw.trans (hb1.mono hbw.size)⟩
          have h2 := HT.out
          rw [HM.out] at h2
          unfold szL
          rw [if_neg (by omega)]
      · have hkn : k = L.length := by omega
        subst hkn
        go_wp2_with fail
        go_ret
        exact ⟨ret_int (by unfold szL; rw [if_pos hle]), hbw⟩
  · have hl : L.length ≤ szP L L.length := szP_len L _
    go_enter Try.func14, Try.ntmps14
    go_wp2_with fail
    go_ret
    refine ⟨ret_int ?_, Below.refl _ _⟩
    unfold szL
    rw [if_neg (by omega)]

theorem storeSvI (p j : Nat) (s : ByteArray) (d : Int) (bo : Option Addr) (n c : Nat) : ∀ w, (Instr.storeAt 34 (.pointer (some ⟨p, j, none⟩)) (.agg [.string s, .int .i64 d, .slice bo n c].toArray)).run Try.prog w = (storeCells ⟨p, j, none⟩ [.string s, .int .i64 d, .slice bo n c] 0).run Try.prog w := by intro w; go_simp
theorem savedInfo : (Try.prog.info? 34).map (fun i => (i.zero, i.size, i.bytes)) = some (some (.agg #[.string ⟨#[]⟩, .int .i64 0, .slice none 0 0]), 3, 48) := by kernel_rfl
set_option maxRecDepth 100000 in
theorem l_toSavedS (v : Value) (L : List Sd) (w : World) (hv : SVL w v L) (hn : szP L L.length < 1099511627776) :
    Calls Try.prog 16 #[v] w fun e w' => ∃ u, e = .returned u ∧ SVL w' u L ∧ Below w.heap.size w w' := by
  obtain ⟨ao, c, rfl, hc1, hc2⟩ := hv.slice
  have HV := Lib.hid hv
  have HC := Lib.hid (hv.get rfl)
  clear hv
  have hs := szP_len L L.length
  obtain ⟨i0, hi0, hz0, hz1, hz2⟩ := info_parts savedInfo
  go_enter Try.func16, Try.ntmps16
  go_wp2_with (refine wpList_make_full (P := Try.prog) _ rfl _ _ 25 rfl w.heap.size 34 i0 _ 3 Try.underlying25 hi0 hz0 hz1 .i64 .i64 _ _ L.length rfl rfl rfl rfl (by rw [hz2]; omega) (by have : maxLen = 9223372036854775807 := rfl; omega) (Nat.le_refl _) ?_; intro w1 ho hg; have HO := Lib.hid ho; clear ho)
  have hb1 : Below w.heap.size w w1 := (Below.refl _ w).grown hg (Nat.le_refl _) (by simp)
  have HB := Lib.hid (bk_of_own HO.out)
  have HS := Lib.hid (show SvC (OW 54 (w.heap.size + 1) w1) L 0 _ from ⟨HO.out.1, fun i hi => by omega⟩)
  clear hg HO hi0 hz0 hz1 hz2
  go_loopw [4] (fun i wr => ∃ k : Nat, k ≤ L.length ∧ i = .int .i64 k ∧ (∃ cs, Hid (BK wr w.heap.size cs) ∧ Hid (SvC (OW 54 (w.heap.size + 1) wr) L k cs)) ∧ Below w.heap.size w wr) (fun i _ => L.length - (intOf i).toNat)
  case atStart => exact ⟨0, Nat.zero_le _, rfl, ⟨_, HB, HS⟩, hb1⟩
  case round =>
    clear HB HS hb1
    obtain ⟨k, hk, rfl, ⟨es, HB, HS⟩, hbw⟩ := hrel
    have hBlt := HB.out.lt
    by_cases hlt : k < L.length
    · obtain ⟨b, off, u, rfl, hbl, g0, g1, g2, g3, g4⟩ := HC.out k hlt
      have q0 := (hbw.cell (p := ⟨b, off + k * 3, none⟩) hbl).trans g0
      have q1 := (hbw.cell (p := ⟨b, off + k * 3 + 1, none⟩) hbl).trans g1
      have q2 := (hbw.cell (p := ⟨b, off + k * 3 + 2, none⟩) hbl).trans g2
      have G3 := Lib.hid (g3.keep hbw)
      have hm := szP_elem L hlt
      have HN := Lib.hid (fun (u : Value) (W : World) (es : List Value) (h : SvC (OW 54 (w.heap.size + 1) W) L k es) (hu : OW 54 (w.heap.size + 1) W u (L.getD k d0).2.2) => h.next hlt hu)
      obtain ⟨x, hx⟩ : ∃ x, x = L.getD k d0 := ⟨_, rfl⟩
      rw [← hx] at q0 q1 G3 HN hm
      obtain ⟨s, d, cs⟩ := x
      have hm2 : cs.length < 1099511627776 := by simp only [szE] at hm; omega
      clear g0 g1 g2 g3 hx hm g4
      obtain ⟨uo, uc, rfl, hul⟩ := G3.out.slice
      have hes : k * 3 + 3 ≤ es.length := by rw [HS.out.1]; omega
      have HES := Lib.hid hes
      clear hes
      go_wp2_with (first
        | (go_at_call 21; refine (l_toSaved s d _ cs _ G3.out hm2).mono ?_; rintro z w2 ⟨⟨u2, rfl, hu2⟩, hb2⟩; obtain ⟨vo, vc, rfl, hvl⟩ := hu2.sb.slice; have HU := Lib.hid (hu2.down (show w.heap.size + 1 ≤ wr.heap.size by omega)); clear hu2; replace HB := Lib.hid (BK.keep HB.out hb2); replace HS := Lib.hid (SvC.keep HS.out (fun _ _ h => h.keep hb2)); have hz2 := hb2.size; replace hbw := hbw.trans (hb2.mono hbw.size); clear hb2)
        | (refine wpList_storeAgg (us := [.string s, .int .i64 d, .slice vo cs.length vc]) (storeSvI _ _ _ _ _ _ _) rfl rfl (by simp [Value.oneCell']) HB.out (by have := HES.out; simp; omega) ?_; intro W hB hO hL hZ hG; have HB2 := Lib.hid hB; have HBE := Lib.hid hL; have HG := Lib.hid hG; clear hB hO hL hG))
      refine ⟨⟨k + 1, by omega, by go_num, ⟨_, HB2, ?_⟩, HBE.out _ _ hbw (Nat.le_refl _)⟩, by simp [intOf]; omega⟩
      exact HN.out _ _ _ (SvC.keep HS.out (fun _ _ h => OW.grown_keep h HG.out (fun g e => by injection e with e; omega))) (OW.grown_keep HU.out HG.out (fun g e => by injection e with e; omega))
    · have hkn : k = L.length := by omega
      subst hkn
      go_wp2_with fail
      go_ret
      exact ⟨_, rfl, HS.out.svl (fun _ _ h => h.sb) HB.out (by omega) (fun i hi => (HC.out i hi).choose_spec.choose_spec.choose_spec.2.2.2.2.2.2), hbw⟩

theorem l_eqSavedS (u v : Value) (L : List Sd) (w : World) (hu : SVL w u L) (hv : SVL w v L) :
    Calls Try.prog 18 #[u, v] w fun e w' => e = .returned (.bool true) ∧ Below w.heap.size w w' := by
  obtain ⟨ao, c, rfl, hc1, hc2⟩ := hu.slice
  obtain ⟨bo, d, rfl, hd1, hd2⟩ := hv.slice
  have HC := Lib.hid (hu.get rfl)
  have HD := Lib.hid (hv.get rfl)
  clear hu hv
  go_enter Try.func18, Try.ntmps18
  go_wp2_with fail
  go_loopw [5] (fun i wr => ∃ k : Nat, k ≤ L.length ∧ i = .int .i64 k ∧ Below w.heap.size w wr) (fun i _ => L.length - (intOf i).toNat)
  case atStart => exact ⟨0, Nat.zero_le _, rfl, Below.refl _ _⟩
  case round =>
    obtain ⟨k, hk, rfl, hbw⟩ := hrel
    by_cases hlt : k < L.length
    · obtain ⟨b, off, u, rfl, hbl, g0, g1, g2, g3, g4⟩ := HC.out k hlt
      obtain ⟨b', off', u', rfl, hbl', g0', g1', g2', g3', g4'⟩ := HD.out k hlt
      have q0 := (hbw.cell (p := ⟨b, off + k * 3, none⟩) hbl).trans g0
      have q1 := (hbw.cell (p := ⟨b, off + k * 3 + 1, none⟩) hbl).trans g1
      have q2 := (hbw.cell (p := ⟨b, off + k * 3 + 2, none⟩) hbl).trans g2
      have q0' := (hbw.cell (p := ⟨b', off' + k * 3, none⟩) hbl').trans g0'
      have q1' := (hbw.cell (p := ⟨b', off' + k * 3 + 1, none⟩) hbl').trans g1'
      have q2' := (hbw.cell (p := ⟨b', off' + k * 3 + 2, none⟩) hbl').trans g2'
      have G3 := Lib.hid (g3.keep hbw)
      have G3' := Lib.hid (g3'.keep hbw)
      obtain ⟨x, hx⟩ : ∃ x, x = L.getD k d0 := ⟨_, rfl⟩
      rw [← hx] at q0 q1 G3 q0' q1' G3'
      obtain ⟨s, d, cs⟩ := x
      clear g0 g1 g2 g3 g0' g1' g2' g3' hx g4 g4'
      obtain ⟨uo, uc, rfl, hul⟩ := G3.out.slice
      obtain ⟨uo', uc', rfl, hul'⟩ := G3'.out.slice
      have z3 : b < wr.heap.size := Nat.lt_of_lt_of_le hbl hbw.size
      have z4 : b' < wr.heap.size := Nat.lt_of_lt_of_le hbl' hbw.size
      have z0 : (0 : Int) ≤ (k : Int) := by omega
      have z1 : (k : Int) < (L.length : Int) := by omega
      have z2 : ((k : Int)).toNat = k := by omega
      go_wp2_with fail
      go_region_held3 (fun W => W.cell? ⟨b, off + k * 3, none⟩ = some (.string s) ∧ W.cell? ⟨b, off + k * 3 + 1, none⟩ = some (.int .i64 d) ∧ W.cell? ⟨b, off + k * 3 + 2, none⟩ = some (.slice uo cs.length uc) ∧ W.cell? ⟨b', off' + k * 3, none⟩ = some (.string s) ∧ W.cell? ⟨b', off' + k * 3 + 1, none⟩ = some (.int .i64 d) ∧ W.cell? ⟨b', off' + k * 3 + 2, none⟩ = some (.slice uo' cs.length uc')) (first | (simp; done) | (simp [*]; done) | exact True.intro) (first
        | (go_at_call 23; refine (l_eqSaved s d _ _ cs _ (by first | exact G3.out.sl | exact SL.drewN G3.out.sl _ | exact SL.drew G3.out.sl) (by first | exact G3'.out.sl | exact SL.drewN G3'.out.sl _ | exact SL.drew G3'.out.sl)).mono ?_; rintro z w1 ⟨rfl, hb1⟩; obtain ⟨hc1, hf1⟩ := bcellN (N := wr.heap.size) hb1 (by first | exact Nat.le_refl _ | (simp; done)); replace hbw := Below.trans (by first | exact hbw | exact below_drewN hbw _ | exact Below.drew hbw) (Below.mono hb1 (by have := hbw.size; (try simp only [World.heap_drewN, World.size_drew]); omega))))
      go_wp2_with fail
      exact ⟨⟨k + 1, by omega, by go_num, by first | exact hbw | exact below_drewN hbw _ | exact Below.drew hbw⟩, by simp [intOf]; omega⟩
    · go_wp2_with fail
      go_ret
      exact ⟨rfl, hbw⟩

end Go.Proofs.Ytfckfdaloamkdaa
