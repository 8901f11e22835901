/- Contracts: the nearest one of a list of series, found. -/
import Derived.Test.YtkkomajokdlkeaaQ21
namespace Go.Proofs.Ytkkomajokdlkeaa
set_option linter.unusedSimpArgs false
set_option linter.unusedVariables false
set_option maxRecDepth 100000
set_option maxHeartbeats 4000000
open Go.RowKit
attribute [local go_sem] run_store_float run_store_complex alloc_drewN setCell_drewN

theorem farQ_two {a b : List Nat} (h : twoOk a b = true) : farQ a b = numB (farL a b) := farQ_yes h
theorem rows_two {css : List (List Nat)} {x : List Nat} (h : listOk css = true) (hx : twoOk x (headL css) = true) {k : Nat} (hk : k < css.length) : twoOk (rowL css k) x = true := by
  have h1 := two_iff.1 (listOk_two h hk)
  have h2 := two_iff.1 hx
  exact two_iff.2 ⟨h1.1, h2.1, by rw [h1.2.2, h2.2.2]⟩
theorem numB_no {x : Nat} (h : fin x = false) : numB x = (0, false) := by rw [numB, h]; rfl
theorem numB_yes {x : Nat} (h : fin x = true) : numB x = (x, true) := by rw [numB, h]; rfl
theorem nsAt_first (css : List (List Nat)) (x : List Nat) : nsAt css x 1 = (0, farL (rowL css 0) x) := rfl
theorem nsAt_zero {css : List (List Nat)} {x : List Nat} {k : Nat} (hk : k = 0) : nsAt css x (k + 1) = ((k : Int), farL (rowL css k) x) := by subst hk; rfl
theorem nsAt_less {css : List (List Nat)} {x : List Nat} {k : Nat} (hk : k ≠ 0) (h : fc .lss .f32 (farL (rowL css k) x) (nsAt css x k).2 = true) : nsAt css x (k + 1) = ((k : Int), farL (rowL css k) x) := by
  rw [nsAt, if_neg hk, if_pos h]
theorem nsAt_not {css : List (List Nat)} {x : List Nat} {k : Nat} (hk : k ≠ 0) (h : fc .lss .f32 (farL (rowL css k) x) (nsAt css x k).2 = false) : nsAt css x (k + 1) = nsAt css x k := by
  rw [nsAt, if_neg hk, if_neg (by simp [h])]
theorem nsFin_snoc {css : List (List Nat)} {x : List Nat} {k : Nat} (h : nsFin css x k = true) (h2 : fin (farL (rowL css k) x) = true) : nsFin css x (k + 1) = true := by
  show (_ && _) = true; rw [h, h2]; rfl

theorem i_NearestShape (v u : Value) (css : List (List Nat)) (x : List Nat) (w : World) (hv : SS w v css) (hu : SB w u x) :
    Calls Try.prog 32 #[v, u] w fun e w' => NE e (nsQ css x) ∧ Below w.heap.size w w' := by
  obtain ⟨ao, c, rfl, hc1, hc2, hget⟩ := hv.get rfl
  have HV := Lib.hid hv
  have HG := Lib.hid hget
  have HU := Lib.hid hu
  clear hget hv hu
  cases hok : listOk css
  · have HOK := Lib.hid hok
    have HQ := Lib.hid (nsQ_no (css := css) (x := x) (by rw [hok]; rfl))
    clear hok
    go_enter Try.func32, Try.ntmps32
    go_wp2_with (go_at_call 55; refine (i_areShapes _ css _ HV.out).mono ?_; rintro e w1 ⟨rfl, hb1⟩; rw [HOK.out])
    go_ret3
    exact ⟨NE.no HQ.out, by (repeat (first | with_reducible exact Below.refl _ _ | with_reducible assumption | with_reducible refine below_drewN ?_ _ | with_reducible refine Below.drew ?_ | with_reducible refine Below.alloc ?_ (by first | omega | (simp; omega) | (simp; done) | (simp at *; omega)) _ | with_reducible refine Below.setCell ?_ (by first | omega | (simp; omega) | (simp; done) | (simp at *; omega)) _ | refine Below.trans ?_ (Below.mono (by with_reducible assumption) (by first | omega | (simp; omega) | (simp; done) | (simp at *; omega)))))⟩
  · have HOK := Lib.hid hok
    have HL := Lib.hid (listOk_len hok)
    cases htw : twoOk x (headL css)
    · have HTW := Lib.hid htw
      have HQ := Lib.hid (nsQ_no (css := css) (x := x) (by rw [hok, htw]; rfl))
      clear hok htw
      obtain ⟨b0, off0, u0, rfl, hbl0, hc0, hs0⟩ := HG.out 0 (by have := HL.out; omega)
      have HS0 := Lib.hid hs0
      rw [Nat.add_zero] at hc0
      have h00 : (0 : Int) < (css.length : Int) := by have := HL.out; omega
      clear hs0
      go_enter Try.func32, Try.ntmps32
      go_wp2_with (first
        | (go_at_call 55; refine (i_areShapes _ css _ HV.out).mono ?_; rintro e w1 ⟨rfl, hb1⟩; rw [HOK.out]; have hc0' := (hb1.cell (p := ⟨b0, off0, none⟩) hbl0).trans hc0)
        | (go_at_call 89; refine (i_areTwo _ _ x (headL css) _ (HU.out.keep hb1).sl (HS0.out.keep hb1).sl).mono ?_; rintro e w2 ⟨rfl, n2, rfl⟩; rw [HTW.out]))
      go_ret3
      exact ⟨NE.no HQ.out, by (repeat (first | with_reducible exact Below.refl _ _ | with_reducible assumption | with_reducible refine below_drewN ?_ _ | with_reducible refine Below.drew ?_ | with_reducible refine Below.alloc ?_ (by first | omega | (simp; omega) | (simp; done) | (simp at *; omega)) _ | with_reducible refine Below.setCell ?_ (by first | omega | (simp; omega) | (simp; done) | (simp at *; omega)) _ | refine Below.trans ?_ (Below.mono (by with_reducible assumption) (by first | omega | (simp; omega) | (simp; done) | (simp at *; omega)))))⟩
    · have HTW := Lib.hid htw
      have HQ := Lib.hid (nsQ_yes (css := css) (x := x) (by rw [hok, htw]; rfl))
      have HTWO := Lib.hid (fun k (hk : k < css.length) => rows_two hok htw hk)
      clear hok htw
      obtain ⟨b0, off0, u0, rfl, hbl0, hc0, hs0⟩ := HG.out 0 (by have := HL.out; omega)
      have HS0 := Lib.hid hs0
      rw [Nat.add_zero] at hc0
      have h00 : (0 : Int) < (css.length : Int) := by have := HL.out; omega
      clear hs0
      go_enter Try.func32, Try.ntmps32
      go_wp2_with (first
        | (go_at_call 55; refine (i_areShapes _ css _ HV.out).mono ?_; rintro e w1 ⟨rfl, hb1⟩; rw [HOK.out]; have hc0' := (hb1.cell (p := ⟨b0, off0, none⟩) hbl0).trans hc0)
        | (go_at_call 89; refine (i_areTwo _ _ x (headL css) _ (HU.out.keep hb1).sl (HS0.out.keep hb1).sl).mono ?_; rintro e w2 ⟨rfl, n2, rfl⟩; rw [HTW.out]))
      go_loopw [7, 8, 26] (fun bst lst i wr => ∃ k : Nat, k ≤ css.length ∧ i = .int .i64 k ∧ (∃ q : Int, bst = .int .i64 q ∧ Hid (q = (nsAt css x k).1)) ∧ (∃ r, lst = .float .f32 r ∧ r < 4294967296 ∧ Hid (cn .f32 r = (nsAt css x k).2)) ∧ Hid (nsFin css x k = true) ∧ Below w.heap.size w wr) (fun _ _ i _ => css.length - (intOf i).toNat)
      case atStart => exact ⟨0, Nat.zero_le _, rfl, ⟨_, rfl, rfl⟩, ⟨_, rfl, by omega, cn0⟩, rfl, by (repeat (first | with_reducible exact Below.refl _ _ | with_reducible assumption | with_reducible refine below_drewN ?_ _ | with_reducible refine Below.drew ?_ | with_reducible refine Below.alloc ?_ (by first | omega | (simp; omega) | (simp; done) | (simp at *; omega)) _ | with_reducible refine Below.setCell ?_ (by first | omega | (simp; omega) | (simp; done) | (simp at *; omega)) _ | refine Below.trans ?_ (Below.mono (by with_reducible assumption) (by first | omega | (simp; omega) | (simp; done) | (simp at *; omega)))))⟩
      case round =>
        obtain ⟨k, hk, rfl, ⟨q, rfl, HB⟩, ⟨r, rfl, hr, HR⟩, HF, hb⟩ := hrel
        by_cases hlt : k < css.length
        · obtain ⟨b, off, a, e1, hbl, hc, hs⟩ := HG.out k hlt
          simp only [Option.some.injEq, Addr.mk.injEq, and_true] at e1
          obtain ⟨rfl, rfl⟩ := e1
          have hc' := (hb.cell (p := ⟨b0, off0 + k, none⟩) hbl).trans hc
          have HS := Lib.hid (show SB wr a (rowL css k) from SB.below hs hb (Nat.le_refl _))
          have HUR := Lib.hid (SB.below HU.out hb (Nat.le_refl _))
          have HFQ := Lib.hid (farQ_two (HTWO.out k hlt))
          clear hc hs
          cases hf : fin (farL (rowL css k) x)
          · have HN := Lib.hid (numB_no hf)
            have HQ2 := Lib.hid (nearL_no hlt hf)
            clear hf
            go_wp2_with (go_at_call 34; refine (i_FarOfShapes _ _ (rowL css k) x _ HS.out HUR.out).mono ?_; rintro e w3 ⟨⟨r3, b3, rfl, hr3, hr4, hr5⟩, hb3⟩; rw [HFQ.out, HN.out] at hr4 hr5; subst hr5; have HR4 := Lib.hid hr4; clear hr4; have hz3 := hb.size)
            go_ret3
            exact ⟨NE.no (by rw [HQ.out, HQ2.out]), by (repeat (first | with_reducible exact Below.refl _ _ | with_reducible assumption | with_reducible refine below_drewN ?_ _ | with_reducible refine Below.drew ?_ | with_reducible refine Below.alloc ?_ (by first | omega | (simp; omega) | (simp; done) | (simp at *; omega)) _ | with_reducible refine Below.setCell ?_ (by first | omega | (simp; omega) | (simp; done) | (simp at *; omega)) _ | refine Below.trans ?_ (Below.mono (by with_reducible assumption) (by first | omega | (simp; omega) | (simp; done) | (simp at *; omega)))))⟩
          · have HN := Lib.hid (numB_yes hf)
            have HF2 := Lib.hid (nsFin_snoc HF.out hf)
            clear hf
            by_cases hk0 : k = 0
            · subst hk0
              rw [Nat.add_zero] at hc'
              go_wp2_with (go_at_call 34; refine (i_FarOfShapes _ _ (rowL css 0) x _ HS.out HUR.out).mono ?_; rintro e w3 ⟨⟨r3, b3, rfl, hr3, hr4, hr5⟩, hb3⟩; rw [HFQ.out, HN.out] at hr4 hr5; subst hr5; have HR4 := Lib.hid hr4; clear hr4; have hz3 := hb.size)
              refine ⟨⟨1, by omega, by go_num, ⟨_, rfl, ?_⟩, ⟨_, rfl, hr3, ?_⟩, HF2.out, by (repeat (first | with_reducible exact Below.refl _ _ | with_reducible assumption | with_reducible refine below_drewN ?_ _ | with_reducible refine Below.drew ?_ | with_reducible refine Below.alloc ?_ (by first | omega | (simp; omega) | (simp; done) | (simp at *; omega)) _ | with_reducible refine Below.setCell ?_ (by first | omega | (simp; omega) | (simp; done) | (simp at *; omega)) _ | refine Below.trans ?_ (Below.mono (by with_reducible assumption) (by first | omega | (simp; omega) | (simp; done) | (simp at *; omega)))))⟩, by simp [intOf]; omega⟩
              · show _ = _
                rw [nsAt_zero rfl]; rfl
              · show _ = _
                rw [HR4.out, nsAt_zero rfl]
            · have hkk : ((k : Int) == 0) = false := by simp; omega
              cases hlss : fc .lss .f32 (farL (rowL css k) x) (nsAt css x k).2
              · have HLS := Lib.hid hlss
                have HNX := Lib.hid (nsAt_not hk0 hlss)
                clear hlss
                go_wp2_with (first
                  | (go_at_call 34; refine (i_FarOfShapes _ _ (rowL css k) x _ HS.out HUR.out).mono ?_; rintro e w3 ⟨⟨r3, b3, rfl, hr3, hr4, hr5⟩, hb3⟩; rw [HFQ.out, HN.out] at hr4 hr5; subst hr5; have HR4 := Lib.hid hr4; clear hr4; have hz3 := hb.size)
                  | (refine wpList_fc .f32 _ _ rfl rfl rfl ?_; rw [HR4.out, HR.out]; rw [HLS.out])
                  | (refine wpList_fc_g rfl .f32 _ _ rfl rfl rfl ?_; rw [HR4.out, HR.out]; rw [HLS.out]))
                refine ⟨⟨k + 1, by omega, by go_num, ⟨_, rfl, ?_⟩, ⟨_, rfl, hr, ?_⟩, HF2.out, by (repeat (first | with_reducible exact Below.refl _ _ | with_reducible assumption | with_reducible refine below_drewN ?_ _ | with_reducible refine Below.drew ?_ | with_reducible refine Below.alloc ?_ (by first | omega | (simp; omega) | (simp; done) | (simp at *; omega)) _ | with_reducible refine Below.setCell ?_ (by first | omega | (simp; omega) | (simp; done) | (simp at *; omega)) _ | refine Below.trans ?_ (Below.mono (by with_reducible assumption) (by first | omega | (simp; omega) | (simp; done) | (simp at *; omega)))))⟩, by simp [intOf]; omega⟩
                · show _ = _
                  rw [HNX.out]; exact HB.out
                · show _ = _
                  rw [HNX.out]; exact HR.out
              · have HLS := Lib.hid hlss
                have HNX := Lib.hid (nsAt_less hk0 hlss)
                clear hlss
                go_wp2_with (first
                  | (go_at_call 34; refine (i_FarOfShapes _ _ (rowL css k) x _ HS.out HUR.out).mono ?_; rintro e w3 ⟨⟨r3, b3, rfl, hr3, hr4, hr5⟩, hb3⟩; rw [HFQ.out, HN.out] at hr4 hr5; subst hr5; have HR4 := Lib.hid hr4; clear hr4; have hz3 := hb.size)
                  | (refine wpList_fc .f32 _ _ rfl rfl rfl ?_; rw [HR4.out, HR.out]; rw [HLS.out])
                  | (refine wpList_fc_g rfl .f32 _ _ rfl rfl rfl ?_; rw [HR4.out, HR.out]; rw [HLS.out]))
                refine ⟨⟨k + 1, by omega, by go_num, ⟨_, rfl, ?_⟩, ⟨_, rfl, hr3, ?_⟩, HF2.out, by (repeat (first | with_reducible exact Below.refl _ _ | with_reducible assumption | with_reducible refine below_drewN ?_ _ | with_reducible refine Below.drew ?_ | with_reducible refine Below.alloc ?_ (by first | omega | (simp; omega) | (simp; done) | (simp at *; omega)) _ | with_reducible refine Below.setCell ?_ (by first | omega | (simp; omega) | (simp; done) | (simp at *; omega)) _ | refine Below.trans ?_ (Below.mono (by with_reducible assumption) (by first | omega | (simp; omega) | (simp; done) | (simp at *; omega)))))⟩, by simp [intOf]; omega⟩
                · show _ = _
                  rw [HNX.out]
                · show _ = _
                  rw [HNX.out]; exact HR4.out
        · go_wp2_with fail
          go_ret3
          obtain rfl : k = css.length := by omega
          refine ⟨⟨_, _, _, rfl, hr, ?_, ?_, ?_⟩, by (repeat (first | with_reducible exact Below.refl _ _ | with_reducible assumption | with_reducible refine below_drewN ?_ _ | with_reducible refine Below.drew ?_ | with_reducible refine Below.alloc ?_ (by first | omega | (simp; omega) | (simp; done) | (simp at *; omega)) _ | with_reducible refine Below.setCell ?_ (by first | omega | (simp; omega) | (simp; done) | (simp at *; omega)) _ | refine Below.trans ?_ (Below.mono (by with_reducible assumption) (by first | omega | (simp; omega) | (simp; done) | (simp at *; omega)))))⟩
          · rw [HQ.out, nearL_yes HF.out, HB.out]
          · rw [HQ.out, nearL_yes HF.out, HR.out]
          · rw [HQ.out, nearL_yes HF.out]

theorem s_l07Nearest (v u : Value) (css : List (List Nat)) (x : List Nat) (w : World) (hv : SS w v css) (hu : SB w u x) (hlen : ∀ k, k < css.length → (rowL css k).length = x.length) :
    Calls Try.prog 63 #[v, u] w fun e w' => NE e (nearL css x) ∧ Dr w w' := by
  obtain ⟨ao, c, rfl, hc1, hc2, hget⟩ := hv.get rfl
  have HG := Lib.hid hget
  have HU := Lib.hid hu
  have HLN := Lib.hid hlen
  clear hget hv hu hlen
  go_enter Try.func63, Try.ntmps63
  go_wp2_with fail
  go_loopw [7, 8, 13] (fun bst lst i wr => ∃ k : Nat, k ≤ css.length ∧ i = .int .i64 k ∧ (∃ q : Int, bst = .int .i64 q ∧ Hid (q = (nsAt css x k).1)) ∧ (∃ r, lst = .float .f32 r ∧ r < 4294967296 ∧ Hid (cn .f32 r = (nsAt css x k).2)) ∧ Hid (nsFin css x k = true) ∧ ∃ d, wr = w.drewN d) (fun _ _ i _ => css.length - (intOf i).toNat)
  case atStart => exact ⟨0, Nat.zero_le _, rfl, ⟨_, rfl, rfl⟩, ⟨_, rfl, by omega, cn0⟩, rfl, 0, rfl⟩
  case round =>
    obtain ⟨k, hk, rfl, ⟨q, rfl, HB⟩, ⟨r, rfl, hr, HR⟩, HF, d, rfl⟩ := hrel
    by_cases hlt : k < css.length
    · obtain ⟨b, off, a, rfl, hbl, hc, hs⟩ := HG.out k hlt
      have HS := Lib.hid (show SB w a (rowL css k) from hs)
      have HLK := Lib.hid (HLN.out k hlt)
      clear hs
      cases hf : fin (farL (rowL css k) x)
      · have HFF := Lib.hid hf
        have HQ2 := Lib.hid (nearL_no hlt hf)
        clear hf
        go_wp2_with (first
          | (go_at_call 67; refine (s_l07Far _ _ (rowL css k) x _ (HS.out.drewN _) (HU.out.drewN _) HLK.out).mono ?_; rintro e w3 ⟨⟨r3, rfl, hr3, hr4⟩, n3, rfl⟩; have HR4 := Lib.hid hr4; clear hr4)
          | (go_at_call 69; refine (s_l01Finite _ _).mono ?_; rintro e w4 ⟨rfl, n4, rfl⟩; rw [HR4.out, HFF.out]))
        go_ret3
        exact ⟨NE.no HQ2.out, by first | exact ⟨_, rfl⟩ | exact ⟨_, (World.drewN_drewN ..).symm⟩⟩
      · have HFF := Lib.hid hf
        have HF2 := Lib.hid (nsFin_snoc HF.out hf)
        clear hf
        by_cases hk0 : k = 0
        · subst hk0
          rw [Nat.add_zero] at hc
          go_wp2_with (first
            | (go_at_call 67; refine (s_l07Far _ _ (rowL css 0) x _ (HS.out.drewN _) (HU.out.drewN _) HLK.out).mono ?_; rintro e w3 ⟨⟨r3, rfl, hr3, hr4⟩, n3, rfl⟩; have HR4 := Lib.hid hr4; clear hr4)
            | (go_at_call 69; refine (s_l01Finite _ _).mono ?_; rintro e w4 ⟨rfl, n4, rfl⟩; rw [HR4.out, HFF.out]))
          refine ⟨⟨1, by omega, by go_num, ⟨_, rfl, ?_⟩, ⟨_, rfl, hr3, ?_⟩, HF2.out, by first | exact ⟨_, rfl⟩ | exact ⟨_, (World.drewN_drewN ..).symm⟩⟩, by simp [intOf]; omega⟩
          · show _ = _
            rw [nsAt_zero rfl]; rfl
          · show _ = _
            rw [HR4.out, nsAt_zero rfl]
        · have hkk : ((k : Int) == 0) = false := by simp; omega
          cases hlss : fc .lss .f32 (farL (rowL css k) x) (nsAt css x k).2
          · have HLS := Lib.hid hlss
            have HNX := Lib.hid (nsAt_not hk0 hlss)
            clear hlss
            go_wp2_with (first
              | (go_at_call 67; refine (s_l07Far _ _ (rowL css k) x _ (HS.out.drewN _) (HU.out.drewN _) HLK.out).mono ?_; rintro e w3 ⟨⟨r3, rfl, hr3, hr4⟩, n3, rfl⟩; have HR4 := Lib.hid hr4; clear hr4)
              | (go_at_call 69; refine (s_l01Finite _ _).mono ?_; rintro e w4 ⟨rfl, n4, rfl⟩; rw [HR4.out, HFF.out])
              | (refine wpList_fc .f32 _ _ rfl rfl rfl ?_; rw [HR4.out, HR.out]; rw [HLS.out])
              | (refine wpList_fc_g rfl .f32 _ _ rfl rfl rfl ?_; rw [HR4.out, HR.out]; rw [HLS.out]))
            refine ⟨⟨k + 1, by omega, by go_num, ⟨_, rfl, ?_⟩, ⟨_, rfl, hr, ?_⟩, HF2.out, by first | exact ⟨_, rfl⟩ | exact ⟨_, (World.drewN_drewN ..).symm⟩⟩, by simp [intOf]; omega⟩
            · show _ = _
              rw [HNX.out]; exact HB.out
            · show _ = _
              rw [HNX.out]; exact HR.out
          · have HLS := Lib.hid hlss
            have HNX := Lib.hid (nsAt_less hk0 hlss)
            clear hlss
            go_wp2_with (first
              | (go_at_call 67; refine (s_l07Far _ _ (rowL css k) x _ (HS.out.drewN _) (HU.out.drewN _) HLK.out).mono ?_; rintro e w3 ⟨⟨r3, rfl, hr3, hr4⟩, n3, rfl⟩; have HR4 := Lib.hid hr4; clear hr4)
              | (go_at_call 69; refine (s_l01Finite _ _).mono ?_; rintro e w4 ⟨rfl, n4, rfl⟩; rw [HR4.out, HFF.out])
              | (refine wpList_fc .f32 _ _ rfl rfl rfl ?_; rw [HR4.out, HR.out]; rw [HLS.out])
              | (refine wpList_fc_g rfl .f32 _ _ rfl rfl rfl ?_; rw [HR4.out, HR.out]; rw [HLS.out]))
            refine ⟨⟨k + 1, by omega, by go_num, ⟨_, rfl, ?_⟩, ⟨_, rfl, hr3, ?_⟩, HF2.out, by first | exact ⟨_, rfl⟩ | exact ⟨_, (World.drewN_drewN ..).symm⟩⟩, by simp [intOf]; omega⟩
            · show _ = _
              rw [HNX.out]
            · show _ = _
              rw [HNX.out]; exact HR4.out
    · go_wp2_with fail
      go_ret3
      obtain rfl : k = css.length := by omega
      refine ⟨⟨_, _, _, rfl, hr, ?_, ?_, ?_⟩, _, rfl⟩
      · rw [nearL_yes HF.out, HB.out]
      · rw [nearL_yes HF.out, HR.out]
      · rw [nearL_yes HF.out]

end Go.Proofs.Ytkkomajokdlkeaa
