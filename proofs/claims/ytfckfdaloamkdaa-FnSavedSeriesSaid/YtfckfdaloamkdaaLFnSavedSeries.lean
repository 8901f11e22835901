/- THE LAW FnSavedSeries: series are loaded as they were stored; of those that are cut or bent as bytes, a beginning is recovered. -/
import Derived.Test.YtfckfdaloamkdaaLawKit
import Derived.Test.YtfckfdaloamkdaaSt
import Derived.Test.YtfckfdaloamkdaaK140
import Derived.Deep.CutRange
import Derived.Deep.RegionWith
namespace Go.Proofs.Ytfckfdaloamkdaa
set_option linter.unusedSimpArgs false
set_option linter.unusedVariables false
set_option maxRecDepth 100000
set_option maxHeartbeats 4000000
open Go.ChangeShapes Go.WideShapes Go.ChangeAt Go.RowKit Go.Deep
attribute [local go_sem] run_store_float run_store_complex alloc_drewN setCell_drewN

theorem oneIntE2 : OneC Try.prog 47 3 (.int .i64 0) 8 := oneC_of Try.underlying47 (by kernel_rfl) rfl (by decide)
theorem l_b10AtS (v : Value) (cs : List Int) (i n : Nat) (hi : i ≤ 1000) (hn : 1 < n) (hn2 : n ≤ 100000) (w : World) (hv : GL (Value.int .u8) w v cs) (hw : allU8 cs) :
    Calls Try.prog 37 #[v, .int .i64 (i : Int), .int .i64 (n : Int)] w fun e w' => (∃ x : Nat, x < n ∧ e = .returned (.int .i64 (x : Int))) ∧ Dr w w' := by
  obtain ⟨ao, c, rfl, hc1, hc2⟩ := hv.slice
  have z0 : (0 : Int) ≤ (i : Int) := by omega
  have z2 : ((i : Int)).toNat = i := by omega
  have z3 : (1 : Int) < (n : Int) := by omega
  by_cases h : i < cs.length
  · obtain ⟨b, off, rfl, hbl, hcell⟩ := hv.getU i h
    have hx := hw.get i
    have z1 : (i : Int) < (cs.length : Int) := by omega
    clear hv hw
    generalize cs.getD i 0 = x at *
    obtain ⟨xn, rfl⟩ := Int.eq_ofNat_of_zero_le hx.1
    have hlt : xn % n < n := Nat.mod_lt _ (by omega)
    have HM := Lib.hid (show (xn : Int) % (n : Int) = ((xn % n : Nat) : Int) by omega)
    go_enter Try.func37, Try.ntmps37
    go_wp2_with fail
    go_ret
    refine ⟨⟨xn % n, hlt, ?_⟩, Dr.refl _⟩
    exact congrArg (fun z => Ending.returned (Value.int .i64 z)) HM.out
  · have z1 : ¬ (i : Int) < (cs.length : Int) := by omega
    clear hv hw
    have hlt : (i * 37 + 11) % n < n := Nat.mod_lt _ (by omega)
    have HM := Lib.hid (show ((i : Int) * 37 + 11) % (n : Int) = (((i * 37 + 11) % n : Nat) : Int) by rw [Int.natCast_emod]; push_cast; rfl)
    go_enter Try.func37, Try.ntmps37
    go_wp2_with fail
    go_ret
    refine ⟨⟨(i * 37 + 11) % n, hlt, ?_⟩, Dr.refl _⟩
    exact congrArg (fun z => Ending.returned (Value.int .i64 z)) HM.out
theorem l_b10LongS (u v : Value) (cs ds : List Int) (w : World) (hu : GL (Value.int .u8) w u cs) (hv : GL (Value.int .u8) w v ds) :
    Calls Try.prog 34 #[u, v] w fun e w' => e = .returned (.bool (decide (1048576 < cs.length) || decide (1048576 < ds.length))) ∧ Dr w w' := by
  obtain ⟨ao, c, rfl, hc1, hc2⟩ := hu.slice
  obtain ⟨bo, d, rfl, hd1, hd2⟩ := hv.slice
  clear hu hv
  by_cases h1 : (1048576 : Int) < (cs.length : Int) <;> by_cases h2 : (1048576 : Int) < (ds.length : Int)
  all_goals
    go_enter Try.func34, Try.ntmps34
    go_wp2
    go_ret
    exact ⟨ret_bool (by simp; omega), Dr.refl _⟩
set_option maxRecDepth 100000 in
theorem FnSavedSeries_walk {w : World} (u : Value) (cs : List Int) (hu : GL (Value.int .u8) w u cs) (hcs : allU8 cs) (v : Value) (ds : List Int) (hv : GL (Value.int .u8) w v ds) (hds : allU8 ds) :
    Calls Try.prog 9 #[u, v] w fun z w' => z = .returned (.bool true) ∧ Below w.heap.size w w' := by
  have HU := Lib.hid hu
  have HV := Lib.hid hv
  have HCS := Lib.hid hcs
  have HDS := Lib.hid hds
  clear hu hv hcs hds
  go_enter Try.func9, Try.ntmps9
  go_wp2_with fail
  refine (l_b10LongS u v cs ds _ HU.out HV.out).mono ?_; rintro z w1 ⟨rfl, hd⟩
  have HB1 := Lib.hid (hd.below w.heap.size)
  clear hd
  cases hbig : (decide (1048576 < cs.length) || decide (1048576 < ds.length)) with
  | true =>
    go_wp2_with fail
    go_ret
    exact ⟨rfl, HB1.out⟩
  | false =>
    clear hbig
    go_wp2_with fail
    refine (s_B10Saved u cs _ (HU.out.keep HB1.out) HCS.out).mono ?_; rintro z w2 ⟨⟨vL, L, rfl, hL, h4, hok⟩, hb⟩
    have HB2 := Lib.hid (HB1.out.trans (hb.mono HB1.out.size))
    obtain ⟨ao, c, rfl, hc1, hc2⟩ := hL.slice
    have HL := Lib.hid hL
    have hz12 := hb.size
    have HOKA := Lib.hid hok
    clear hb hL hok HB1
    have hz2 := HB2.out.size
    have HE0 := Lib.hid (show GO (Value.int .i64) 3 w2.heap.size (w2.alloc (.cells #[.int .i64 0] 3)) (.slice (some ⟨w2.heap.size, 0, none⟩) 1 1) (endsL L 0) from GO.lit (Value.int .i64) 3 w2.heap.size w2 (endsL L 0) (by simp [endsL, catB]) rfl (by simp [endsL]) (Nat.le_refl _) (by simp [endsL]))
    have HB0 := Lib.hid (HB2.out.alloc hz2 (.cells #[.int .i64 0] 3))
    have HL0 := Lib.hid (HL.out.keep ((Below.refl _ _).alloc (Nat.le_refl _) (.cells #[.int .i64 0] 3)))
    clear HB2 HL
    go_wp2_with fail
    go_loopw [36, 6] (fun i e wr => ∃ k : Nat, k ≤ L.length ∧ i = .int .i64 (k : Int) ∧ Hid (GO (Value.int .i64) 3 w2.heap.size wr e (endsL L k)) ∧ Hid (Below w.heap.size w wr) ∧ Hid (RV 34 54 w1.heap.size w2.heap.size wr (.slice ao L.length c) L) ∧ w2.heap.size ≤ wr.heap.size) (fun i _ _ => L.length - (intOf i).toNat)
    case atStart => exact ⟨0, Nat.zero_le _, rfl, HE0, HB0, HL0, by simp⟩
    case round =>
      clear HE0 HB0 HL0
      obtain ⟨k, hk, rfl, HE, HB, HL, hz2r⟩ := hrel
      have hsz := HB.out.size
      by_cases hlt : k < L.length
      · have hki : (k : Int) < (L.length : Int) := by omega
        obtain ⟨ao', c', hvv, -, -, hget⟩ := HL.out.svl.atE
        obtain ⟨b, off, u0, hao, hbl, g0, g1, g2, g3, g4⟩ := hget k hlt
        obtain rfl : ao = some ⟨b, off, none⟩ := by injection hvv with e1; rw [e1]; exact hao
        have hx := HOKA.out L[k] (List.getElem_mem hlt)
        have HCS2 := Lib.hid (catB_take_succ hlt)
        clear hvv hao hget
        generalize L[k] = x at *
        obtain ⟨s, d, ns⟩ := x
        simp only at g0 g1 g3 g4
        obtain ⟨uo, uc, rfl, hul⟩ := g3.slice
        have hok : savedOk s d ns = true := hx.1
        have HI := Lib.hid (show Calls Try.prog 22 #[.agg #[.string s, .int .i64 d, .slice uo ns.length uc]] wr fun e w' => e = .returned (.tuple #[.string (tx (stB (s, d, ns))), .bool true]) ∧ Below wr.heap.size wr w' by
          have h := i_StoreSaved s g4 d _ ns wr g3
          rw [hok] at h
          exact h)
        have hln := storeB_length s d ns
        obtain ⟨f1, -, -, f4⟩ := savedOk_facts hok
        have HLD := Lib.hid (fun w => i_LoadSaved (tx (stB (s, d, ns))) (by rw [tx_size]; show (storeB s d ns).length ≤ _; omega) w)
        simp only [loQ_stB hx] at HLD
        have HMC := Lib.hid (map_cn (fun n hn => hx.2 n hn))
        have HEN := Lib.hid (show endsL L (k + 1) = endsL L k ++ [((catB (L.take k)).length : Int) + (((tx (stB (s, d, ns))).size : Nat) : Int)] by rw [endsL_succ, HCS2.out, tx_size, List.length_append]; simp)
        have HLAST := Lib.hid (fun h => endsL_get L k (j := k) h)
        have hel := endsL_length L k
        have htz : (tx (stB (s, d, ns))).size ≤ 1000 := by rw [tx_size]; show (storeB s d ns).length ≤ _; omega
        have hcl : (catB (L.take k)).length ≤ 500 * 1000 := by
          have h1 := catB_len_le (L.take k) (fun y hy => HOKA.out y (List.mem_of_mem_take hy))
          rw [List.length_take] at h1
          have : 500 * min k L.length ≤ 500 * 1000 := Nat.mul_le_mul_left _ (by omega)
          omega
        generalize tx (stB (s, d, ns)) = bs at *
        generalize (catB (L.take k)).length = en at *
        have HG0 := Lib.hid g0
        have HG1 := Lib.hid g1
        have HG2 := Lib.hid g2
        have HG3 := Lib.hid g3
        have HOKS := Lib.hid hok
        clear hx hln f1 HCS2 g3 hok
        go_wp2_with fail
        refine HI.out.mono ?_; rintro z w3 ⟨rfl, hb⟩
        have HB3 := Lib.hid (HB.out.trans (hb.mono hsz))
        have HE3 := Lib.hid (HE.out.keep hb)
        have HL3 := Lib.hid (HL.out.keep hb)
        have HG0 := Lib.hid ((hb.cell (p := ⟨b, off + k * 3, none⟩) hbl).trans HG0.out)
        have HG1 := Lib.hid ((hb.cell (p := ⟨b, off + k * 3 + 1, none⟩) hbl).trans HG1.out)
        have HG2 := Lib.hid ((hb.cell (p := ⟨b, off + k * 3 + 2, none⟩) hbl).trans HG2.out)
        have HG3 := Lib.hid (HG3.out.keep hb)
        have hz3 := hb.size
        clear hb HI HB HE HL g0 g1 g2
        go_wp2_with fail
        refine (HLD.out _).mono ?_; rintro z w4 ⟨⟨s', d', u2, rfl, ns', hq, ho, hlt3⟩, hb⟩
        have HB4 := Lib.hid (HB3.out.trans (hb.mono HB3.out.size))
        have HE4 := Lib.hid (HE3.out.keep hb)
        have HL4 := Lib.hid (HL3.out.keep hb)
        have HG0 := Lib.hid ((hb.cell (p := ⟨b, off + k * 3, none⟩) (show b < _ by omega)).trans HG0.out)
        have HG1 := Lib.hid ((hb.cell (p := ⟨b, off + k * 3 + 1, none⟩) (show b < _ by omega)).trans HG1.out)
        have HG2 := Lib.hid ((hb.cell (p := ⟨b, off + k * 3 + 2, none⟩) (show b < _ by omega)).trans HG2.out)
        have HG3 := Lib.hid (HG3.out.keep hb)
        have hz4 := hb.size
        obtain ⟨rfl, rfl, rfl⟩ : s = s' ∧ d = d' ∧ ns = ns' := by
          have h : (s, d, ns) = (s', d', ns') := hq
          injection h with e1 h; injection h with e2 e3
          exact ⟨e1, e2, e3⟩
        obtain ⟨uo2, uc2, rfl, hul2⟩ := ho.slice
        have HO4 := Lib.hid (show OW 54 w3.heap.size w4 (.slice uo2 ns.length uc2) ns by have h := GO.ow ho hlt3; rw [show ns.map (cn .f32) = ns from HMC.out] at h; exact h)
        clear hb ho hlt3 hq HB3 HE3 HL3 HLD HMC
        obtain ⟨q, hq⟩ : ∃ q, q = w4.heap.size := ⟨_, rfl⟩
        have HQ := Lib.hid hq
        clear hq
        go_wp2_with (refine wpList_storeAgg (us := [.string s, .int .i64 d, .slice uo2 ns.length uc2]) (storeSd _ _ _ _ _ _ _) rfl rfl (by simp [Value.oneCell']) (BK.new _ [.string ⟨#[]⟩, .int .i64 0, .slice none 0 0] _) (by simp) ?_; intro wB hE hO hL2 hZ hG; have hb2 := hL2 _ _ ((Below.refl w4.heap.size w4).alloc (Nat.le_refl _) _) (Nat.le_refl _); have HE5 := Lib.hid (HE4.out.keep hb2); have HL5 := Lib.hid (HL4.out.keep hb2); have HO5 := Lib.hid (HO4.out.keep hb2); have HB5 := Lib.hid (HB4.out.trans (hb2.mono HB4.out.size)); have HG0 := Lib.hid ((hb2.cell (p := ⟨b, off + k * 3, none⟩) (show b < _ by omega)).trans HG0.out); have HG1 := Lib.hid ((hb2.cell (p := ⟨b, off + k * 3 + 1, none⟩) (show b < _ by omega)).trans HG1.out); have HG2 := Lib.hid ((hb2.cell (p := ⟨b, off + k * 3 + 2, none⟩) (show b < _ by omega)).trans HG2.out); have HG3 := Lib.hid (HG3.out.keep hb2); (try simp only [World.size_alloc] at hZ); simp [setsAt] at hE; have HX5 := Lib.hid (show BK wB q [.string s, .int .i64 d, .slice uo2 ns.length uc2] by rw [HQ.out]; exact hE); clear hE hO hL2 hG HE4 HL4 HB4 HO4 hb2)
        rw [← HQ.out]
        have hlb : b < wB.heap.size := by omega
        have HSX := Lib.hid (fun W (h : Below wB.heap.size wB W) => And.intro h (And.intro ((h.cell (p := ⟨b, off + k * 3, none⟩) hlb).trans HG0.out) (And.intro ((h.cell (p := ⟨b, off + k * 3 + 1, none⟩) hlb).trans HG1.out) (And.intro ((h.cell (p := ⟨b, off + k * 3 + 2, none⟩) hlb).trans HG2.out) (And.intro ((HX5.out.keep h).at (i := 0) rfl) (And.intro ((HX5.out.keep h).at (i := 1) rfl) ((HX5.out.keep h).at (i := 2) rfl)))))))
        have HVS := Lib.hid (show ∀ W, Below wB.heap.size wB W → Calls Try.prog 36 #[.agg #[.string s, .int .i64 d, .slice uo ns.length uc]] W fun e w' => e = .returned (.bool true) ∧ Below wB.heap.size wB w' from fun W h => (i_ValidSaved s g4 d _ ns W ((HG3.out.keep h).sl)).mono fun e w' hh => ⟨by rw [hh.1, HOKS.out], h.trans (hh.2.mono h.size)⟩)
        have HSS := Lib.hid (show ∀ g1 g2 W, Below wB.heap.size wB W → BK W g1 [.string s, .int .i64 d, .slice uo2 ns.length uc2] → BK W g2 [.string s, .int .i64 d, .slice uo ns.length uc] → Calls Try.prog 17 #[.slice (some ⟨g1, 0, none⟩) 1 1, .slice (some ⟨g2, 0, none⟩) 1 1] W fun e w' => e = .returned (.bool true) ∧ Below wB.heap.size wB w' from fun g1 g2 W h h1 h2 => (i_SameSaved _ _ [(s, d, ns)] [(s, d, ns)] W (svl_lit h1 (HO5.out.sb.keep h) g4) (svl_lit h2 (HG3.out.keep h) g4)).mono fun e w' hh => ⟨by rw [hh.1, svSame_refl], h.trans (hh.2.mono h.size)⟩)
        clear HG0 HG1 HG2 HG3 HOKS HO5 HX5
        go_region_held3 (fun W => Below wB.heap.size wB W ∧ W.cell? ⟨b, off + k * 3, none⟩ = some (.string s) ∧ W.cell? ⟨b, off + k * 3 + 1, none⟩ = some (.int .i64 d) ∧ W.cell? ⟨b, off + k * 3 + 2, none⟩ = some (.slice uo ns.length uc) ∧ W.cell? ⟨q, 0, none⟩ = some (.string s) ∧ W.cell? ⟨q, 1, none⟩ = some (.int .i64 d) ∧ W.cell? ⟨q, 2, none⟩ = some (.slice uo2 ns.length uc2)) ((refine HSX.out _ ?_; first | exact Below.drew (Below.refl _ _) | assumption | exact (‹Below wB.heap.size wB _ ∧ _›.1).alloc (‹Below wB.heap.size wB _ ∧ _›.1).size _)) (first | (go_at_call 36; refine (HVS.out _ (‹Below wB.heap.size wB _ ∧ _›.1)).mono ?_; rintro z wx ⟨rfl, hbx⟩) | (go_at_call 17; refine (HSS.out _ _ _ (‹Below wB.heap.size wB _ ∧ _›.1) (by first | exact (BK.new _ [.string s, .int .i64 d, .slice uo2 ns.length uc2] _).alloc _ | exact BK.newAt _ [.string s, .int .i64 d, .slice uo2 ns.length uc2] _ (by simp)) (by first | exact (BK.new _ [.string s, .int .i64 d, .slice uo ns.length uc] _).alloc _ | exact BK.newAt _ [.string s, .int .i64 d, .slice uo ns.length uc] _ (by simp))).mono ?_; rintro z wy ⟨rfl, hby⟩))
        all_goals
          have HB7 := Lib.hid (HB5.out.trans (hby.mono HB5.out.size))
          have HE7 := Lib.hid (HE5.out.keep hby)
          have HL7 := Lib.hid (HL5.out.keep hby)
          have hz7 := hby.size
          clear hby HB5 HE5 HL5 HSX HVS HSS
          obtain ⟨g, cap', hv1, hg1, hg2, hu0, -, -⟩ := HE7.out.at_ (k := k) (by omega)
          rw [hel] at hv1
          subst hv1
          rw [HLAST.out (by omega)] at hu0
          have j1 : IntKind.i64.wrap ((en : Int) + (bs.size : Int)) = (en : Int) + (bs.size : Int) := by rw [IntKind.wrap_i64]; omega
          clear HLAST
          go_wp2_with (at_builtin; refine wpList_gapp (inj := Value.int .i64) oneIntE2 (fun _ => rfl) w2.heap.size _ (endsL L k) rfl (GO.alloc HE7.out _) [(en : Int) + (bs.size : Int)] _ 1 rfl rfl (by intro i u hu; cases i with | zero => (simp only [List.getElem?_cons_zero, Option.some.injEq] at hu; subst hu; simp) | succ i => simp at hu) (by simp only [List.length_cons, List.length_nil]; omega) (by simp; omega) ?_; intro v2 w9 hown hg9; have HE9 := Lib.hid hown; have hz9 := hg9.size; (try simp only [World.size_alloc] at hz9); have HB9 := Lib.hid (show Below w.heap.size w w9 from (HB7.out.alloc HB7.out.size _).grown hg9 (by simp; omega) (fun g' e => Nat.le_trans hz2 (HE7.out.own_ge g' e))); have HL9 := Lib.hid (RV.offs (RV.alloc HL7.out _) (show World.grownBy _ _ (some g) from hg9) (.inr hg1)); clear hown hg9 HE7 HB7 HL7)
          exact ⟨⟨k + 1, by omega, by go_num, by rw [HEN.out]; exact HE9, HB9, HL9, by omega⟩, by simp [intOf]; omega⟩
      · obtain rfl : k = L.length := by omega
        have hki : ¬ ((L.length : Int) < (L.length : Int)) := by omega
        have h8 : L.length ≤ 8 := by omega
        have hcl := catB_len_le L HOKA.out
        have HRA := Lib.hid (show ∀ T, T.size ≤ 5000 → ∀ w, _ from fun T hT w => i_RecoverAll T (by omega) w)
        have hax : (tx (catB L)).size ≤ 4000 := by rw [tx_size]; omega
        have HR1 := Lib.hid (HRA.out (tx (catB L)) (by omega))
        rw [tx_data, rcA_whole HOKA.out h8] at HR1
        have HSA := Lib.hid (fun M (hM : ∀ x ∈ M, savedOk x.1 x.2.1 x.2.2 = true) (hl : M.length ≤ 8) v w (hv : SVL w v M) => show Calls Try.prog 25 #[v] w fun e w' => e = .returned (.tuple #[.string (tx (catB M)), .bool true]) ∧ Below w.heap.size w w' by
          have h := i_StoreAll v M w hv
          rw [svAll_cat hM hl] at h
          exact h)
        have HSM := Lib.hid (fun u v w (hu : SVL w u L) (hv : SVL w v L) => show Calls Try.prog 17 #[u, v] w fun e w' => e = .returned (.bool true) ∧ Below w.heap.size w w' by
          have h := i_SameSaved u v L L w hu hv
          rw [svSame_refl] at h
          exact h)
        have hel := endsL_length L L.length
        have HEG := Lib.hid (fun j h => endsL_get L L.length (j := j) h)
        obtain ⟨N, hN⟩ : ∃ N, N = (catB L).length := ⟨_, rfl⟩
        rw [← hN] at HR1
        have htk : L.take L.length = L := List.take_of_length_le (Nat.le_refl _)
        have haN : (tx (catB L)).size = N := by rw [tx_size, hN]
        obtain ⟨A, hA⟩ : ∃ A, A = tx (catB L) := ⟨_, rfl⟩
        rw [← hA] at HR1 hax haN
        have HAE := Lib.hid hA
        have HAD := Lib.hid (show A.data.toList = catB L by rw [hA, tx_data])
        have HNE := Lib.hid hN
        have HTK := Lib.hid htk
        clear hA hN htk hlt hk
        go_wp2_with fail
        refine (HSA.out L (fun x hx => (HOKA.out x hx).1) h8 _ _ HL.out.svl).mono ?_; rintro z w3 ⟨rfl, hb⟩
        rw [← HAE.out]
        have HB3 := Lib.hid (HB.out.trans (hb.mono hsz))
        have HE3 := Lib.hid (HE.out.keep hb)
        have HL3 := Lib.hid (HL.out.keep hb)
        clear hb HB HE HL
        go_wp2_with fail
        refine (HR1.out _).mono ?_; rintro z w4 ⟨⟨v1, rfl, hv1⟩, hb⟩
        have HB4 := Lib.hid (HB3.out.trans (hb.mono HB3.out.size))
        have HE4 := Lib.hid (HE3.out.keep hb)
        have HL4 := Lib.hid (HL3.out.keep hb)
        obtain ⟨ao1, c1, rfl, -, -⟩ := hv1.slice
        have HV1 := Lib.hid hv1.svl
        have hz4 := HB4.out.size
        clear hb HB3 HE3 HL3 HR1 hv1
        obtain ⟨g, cap', hv1, hg1, hg2, hu0, -, -⟩ := HE4.out.at_ (k := L.length) (by omega)
        rw [HEG.out L.length (by omega), HTK.out, ← HNE.out] at hu0
        rw [hel] at hv1
        subst hv1
        go_wp2_with fail
        refine (HSM.out _ _ _ HV1.out HL4.out.svl).mono ?_; rintro z w5 ⟨rfl, hb⟩
        have HB5 := Lib.hid (HB4.out.trans (hb.mono HB4.out.size))
        have HE5 := Lib.hid (HE4.out.keep hb)
        have hz5 := hb.size
        clear hb HB4 HE4 HL4 HV1 hu0
        by_cases hA0 : N = 0
        · have i0 : (A.size : Int) = 0 := by omega
          have i1 : (N : Int) = 0 := by omega
          have i2 : ((N : Int) == 0) = true := by rw [beq_iff_eq]; omega
          go_wp2_with fail
          go_ret
          exact ⟨rfl, HB5.out⟩
        have i0 : ¬ (A.size : Int) = 0 := by omega
        have i1 : ¬ (N : Int) = 0 := by omega
        have i2 : ((N : Int) == 0) = false := by rw [beq_eq_false_iff_ne]; omega
        go_wp2_with fail
        have HV5 := Lib.hid (HV.out.keep HB5.out)
        refine (l_b10AtS v ds 0 256 (by omega) (by omega) (by omega) _ HV5.out HDS.out).mono ?_; rintro z w6 ⟨⟨x0, hx0, rfl⟩, hd⟩
        have HB6 := Lib.hid (HB5.out.trans ((hd.below w5.heap.size).mono HB5.out.size))
        have HE6 := Lib.hid (HE5.out.keep (hd.below w5.heap.size))
        have hz6 := (hd.below w5.heap.size).size
        clear hd HB5 HE5 HV5
        have t1 : IntKind.i64.wrap (256 * (x0 : Int)) = 256 * (x0 : Int) := by rw [IntKind.wrap_i64]; omega
        go_wp2_with fail
        have HV6 := Lib.hid (HV.out.keep HB6.out)
        refine (l_b10AtS v ds 1 256 (by omega) (by omega) (by omega) _ HV6.out HDS.out).mono ?_; rintro z w7 ⟨⟨x1, hx1, rfl⟩, hd⟩
        have HB7 := Lib.hid (HB6.out.trans ((hd.below w6.heap.size).mono HB6.out.size))
        have HE7 := Lib.hid (HE6.out.keep (hd.below w6.heap.size))
        have hz7 := (hd.below w6.heap.size).size
        clear hd HB6 HE6 HV6
        obtain ⟨s0, hs0⟩ : ∃ s0, s0 = 256 * x0 + x1 := ⟨_, rfl⟩
        have t2 : 256 * (x0 : Int) + (x1 : Int) = (s0 : Int) := by omega
        have t3 : IntKind.i64.wrap (s0 : Int) = (s0 : Int) := by rw [IntKind.wrap_i64]; omega
        obtain ⟨c0, hc0⟩ : ∃ c0, c0 = s0 % N := ⟨_, rfl⟩
        have hcN : c0 < N := by rw [hc0]; exact Nat.mod_lt _ (by omega)
        have t4 : (s0 : Int) % (N : Int) = (c0 : Int) := by rw [hc0]; exact (Int.natCast_emod _ _).symm
        have t5 : (s0 : Int).tmod (N : Int) = (c0 : Int) := by rw [Int.tmod_eq_emod_of_nonneg (by omega)]; exact t4
        clear hs0 hc0
        go_wp2_with fail
        go_loopw [18] (fun q wx => ∃ j : Nat, j ≤ L.length ∧ q = .int .i64 (j : Int) ∧ Hid ((catB (L.take j)).length ≤ c0) ∧ wx = w7) (fun q _ => L.length - (intOf q).toNat)
        case atStart => exact ⟨0, Nat.zero_le _, rfl, Lib.hid (by simp [catB]), rfl⟩
        case round =>
          obtain ⟨j, hj, rfl, HJ, rfl⟩ := hrel
          have hjl : j < L.length := by
            rcases Nat.lt_or_ge j L.length with h | h
            · exact h
            · have e : j = L.length := by omega
              have h1 := HJ.out
              rw [e, HTK.out, ← HNE.out] at h1
              omega
          have hji : (j : Int) < (L.length : Int) := by omega
          have n1 : (0 : Int) ≤ (j : Int) + 1 := by omega
          have n2 : ((j : Int) + 1).toNat = j + 1 := by omega
          have n3 : (j : Int) + 1 < (L.length : Int) + 1 := by omega
          have n4 : IntKind.i64.wrap ((j : Int) + 1) = (j : Int) + 1 := by rw [IntKind.wrap_i64]; omega
          obtain ⟨g', cap2, hv1, -, -, hu1, -, -⟩ := HE7.out.at_ (k := j + 1) (by omega)
          obtain rfl : g = g' := by injection hv1 with e1; injection e1 with e1; injection e1
          rw [HEG.out (j + 1) (by omega)] at hu1
          clear hv1
          by_cases hle : (catB (L.take (j + 1))).length ≤ c0
          · have HL := Lib.hid hle
            have hlei : ((catB (L.take (j + 1))).length : Int) ≤ (c0 : Int) := by omega
            clear hle
            go_wp2_with fail
            exact ⟨⟨j + 1, by omega, by go_num, HL, trivial⟩, by simp [intOf]; omega⟩
          · have hlei : ¬ ((catB (L.take (j + 1))).length : Int) ≤ (c0 : Int) := by omega
            have HCUT := Lib.hid (rcA_cutL HOKA.out h8 hjl HJ.out (by omega))
            have HBENT := Lib.hid (fun y => rcA_bent HOKA.out h8 hjl HJ.out y)
            obtain ⟨g', cap2, hv1, -, -, hu2, -, -⟩ := HE7.out.at_ (k := j) (by omega)
            obtain rfl : g = g' := by injection hv1 with e1; injection e1 with e1; injection e1
            clear hv1
            rw [HEG.out j (by omega)] at hu2
            obtain ⟨m, hm⟩ : ∃ m, m = (catB (L.take j)).length := ⟨_, rfl⟩
            have HR2 := Lib.hid (HRA.out (A.extract 0 c0) (by rw [HAE.out, tx_piece, tx_size]; simp; omega))
            have e1 : (A.extract 0 c0).data.toList = (catB L).take c0 := by rw [HAE.out, tx_piece, tx_data, tx_data]; rfl
            rw [e1, HCUT.out] at HR2
            have hmc : m ≤ c0 := by rw [hm]; exact HJ.out
            rw [← hm] at HR2 hu2
            have hlt2 : (L.take j).length = j := by rw [List.length_take]; omega
            clear e1 HCUT hle
            generalize (catB (L.take (j + 1))).length = e1 at *
            generalize L.take j = Lj at *
            clear hm
            have k1 : (0 : Int) ≤ (c0 : Int) := by omega
            have k2 : (c0 : Int) ≤ (A.size : Int) := by omega
            have k3 : c0 ≤ A.size := by omega
            have k7 : (c0 : Int) < (A.size : Int) := by omega
            have k8 : (c0 : Int) < (N : Int) := by omega
            go_wp2_with fail
            refine (HR2.out _).mono ?_; rintro z w8 ⟨⟨v2, rfl, hv2⟩, hb⟩
            have HB8 := Lib.hid (HB7.out.trans (hb.mono HB7.out.size))
            have hu3 := (hb.cell (p := ⟨g, j, none⟩) (show g < _ by omega)).trans hu2
            have hz8 := hb.size
            have hv2' : RV 34 54 _ w8.heap.size w8 v2 Lj := hv2
            obtain ⟨ao2, c2, he, -, -⟩ := hv2'.slice
            rw [hlt2] at he
            subst he
            clear hb HR2 hv2 hv2' hu1 hu2
            go_wp2_with ((with_reducible refine wpList_bytes (s := A) Try.underlying9 Try.underlying48 Try.underlying5 ?_ ?_); (· rfl); intro cap9 w9 hcp hb9 hz9 hc9 hf9; have hu9 := hc9 c0 (by omega); have hfz := hf9 c0 (by omega); have HC9 := Lib.hid (cells_of HAD.out hc9); have HB9 := Lib.hid (HB8.out.trans (hb9.mono HB8.out.size)); generalize ((A.data.toList.getD c0 0).toNat : Int) = y0 at hu9; clear hb9 hc9 hf9 HB8 hu3)
            obtain ⟨gb, hgb⟩ : ∃ gb, gb = w8.heap.size := ⟨_, rfl⟩
            rw [← hgb] at hu9 hfz HC9 ⊢
            have hgw : w.heap.size ≤ gb := by omega
            have hg9 : gb < w9.heap.size := by omega
            clear hgb
            go_cut [] from 182 to 191 (fun W => ∃ y : UInt8, Hid (∀ j' (hj' : j' < ((catB L).set c0 y).length), W.cell? ⟨gb, j', none⟩ = some (.int .u8 (((catB L).set c0 y)[j'].toNat : Int))) ∧ Hid (Below w.heap.size w W) ∧ w9.heap.size ≤ W.heap.size)
            case first =>
              go_region_with (first | (go_at_call 37; refine (l_b10AtS v ds 2 255 (by omega) (by omega) (by omega) _ (HV.out.keep (by first | exact HB9.out | exact Below.drew HB9.out)) HDS.out).mono ?_; rintro z wx ⟨⟨x2, hx2, rfl⟩, nq, rfl⟩))
              all_goals go_wp2_with fail
              all_goals go_meet
              all_goals exact rel_byte2 _ (byte_wrap _) HC9.out (by have := HNE.out; omega) hu9 HB9.out hgw (Nat.le_refl _)
            case rest =>
              obtain ⟨y, HC10, HB10, hz10⟩ := hcut
              have hback := rcA_back 8 ((catB L).set c0 y)
              have hbent := HBENT.out y
              have HR3 := Lib.hid (HRA.out (tx ((catB L).set c0 y)) (by rw [tx_size, List.length_set]; have := HNE.out; omega))
              rw [tx_data] at HR3
              have hbl : ((catB L).set c0 y).length = N := by rw [List.length_set]; exact HNE.out.symm
              generalize (catB L).set c0 y = bl at *
              generalize rcA bl 8 = Q3 at *
              obtain ⟨M, o⟩ := Q3
              simp only at hback hbent
              obtain ⟨hb1, hb2, hb3, hb4⟩ := hback
              have HBK := Lib.hid hb1
              have HOKM := Lib.hid hb4
              have hW := HB10.out.size
              have HBL := Lib.hid hbl.symm
              clear hb1 hb4 hu9 hfz HC9 HB9
              go_wp2_with ((with_reducible refine wpList_string (b := gb) (n := N) (cap := cap9) (l := bl) Try.underlying48 Try.underlying5 Try.underlying9 ?_ ?_ ?_ ?_); (· rfl); (· exact HBL.out); (· exact HC10.out))
              refine (HR3.out _).mono ?_; rintro z w11 ⟨⟨v3, rfl, hv3⟩, hb⟩
              have hv3' : RV 34 54 _ w11.heap.size w11 v3 M := hv3
              obtain ⟨ao3, c3, rfl, -, -⟩ := hv3'.slice
              have HV3 := Lib.hid hv3'.svl
              have HB11 := Lib.hid (HB10.out.trans (hb.mono hW))
              have HC11 := Lib.hid (fun j hj => (hb.cell (p := ⟨gb, j, none⟩) (show gb < _ by omega)).trans (HC10.out j hj))
              have hz11 := hb.size
              clear hb hv3 hv3' HB10 HC10 HR3
              go_wp2_with fail
              refine (HSA.out M HOKM.out hb3 _ _ HV3.out).mono ?_; rintro z w12 ⟨rfl, hb⟩
              rw [HBK.out]
              have HB12 := Lib.hid (HB11.out.trans (hb.mono HB11.out.size))
              have hlo : (bl.take o).length = o := by rw [List.length_take]; omega
              have RS := run_convert_bytes_back w12 48 9 5 ⟨gb, 0, none⟩ cap9 (bl.take o) Try.underlying48 Try.underlying5 Try.underlying9 (fun j' hj' => by
                rw [Addr.add_lit, Nat.zero_add, List.getElem_take]
                exact (hb.cell (p := ⟨gb, j', none⟩) (show gb < _ by omega)).trans (HC11.out j' (by omega)))
              rw [hlo] at RS
              have RS : (convert 48 9 (.slice (some ⟨gb, 0, none⟩) o cap9)).run Try.prog w12 = .ok (.string (tx (bl.take o))) w12 := RS
              have m1 : (j : Int) ≤ (M.length : Int) := by omega
              have m2 : (0 : Int) ≤ (o : Int) := by omega
              have m3 : (o : Int) ≤ (N : Int) := by omega
              have m4 : (o : Int) ≤ (cap9 : Int) := by omega
              have m5 : o ≤ cap9 := by omega
              clear hb HV3 HB11 HC11 HBK HOKM hb3 hlo
              go_wp2_with fail
              go_ret
              exact ⟨ret_bool (by simp [ByteArray.toList_eq, tx_data]), HB12.out⟩
set_option maxRecDepth 100000 in
theorem FnSavedSeries_lifted (os : Os) (started : os.Started) (H : Type) (enc : TypeId × Value → H) :
    ReturnsInHanded {} Try.checked os 9 .any (Rows.fnSavedSeriesSpec.pre6 enc Try.prog Try.f9 Rows.fnSavedSeriesRow.domain false) (Rows.fnSavedSeriesSpec.post enc Try.prog Try.f9 false true false false) := by
  refine returnsInHanded_of_change (C := Try.checked) own started (by kernel_rfl) Try.func9
    (ChangeSpec.witness6 (enc := enc) (C := Try.checked) false ⟨#[], #[.slice none 0 0, .slice none 0 0], []⟩ 8 (by kernel_rfl) (by kernel_rfl) (by kernel_rfl) (by kernel_rfl)) ?_
  intro W base args ds gs before hval0 hW hcnd _
  have hval : ∀ (j : Nat) t v, Try.f9.params[j]? = some t → args[j]? = some v → Value.okWide Try.prog W .any base t v := hval0
  have hW' := hW
  obtain ⟨p, q, hA0, hV, rfl, hfz, hnd⟩ := hW
  have hA : DataW.TrodAll enc Try.prog W 0 (fun _ => true) true Try.f9.params.toList args.toList ds p := hA0
  rw [Try.params9] at hA hval
  obtain ⟨v0, vs0, d0, ds0, p0, q0, hargs, rfl, rfl, h0, r0⟩ := trodAll_cons hA
  obtain ⟨v1, vs1, d1, ds1, p1, q1, rfl, rfl, rfl, h1, r1⟩ := trodAll_cons r0
  obtain ⟨rfl, rfl, rfl⟩ := trodAll_nil r1
  obtain rfl : args = #[v0, v1] := by cases args; simp_all
  obtain ⟨rfl, rfl⟩ := trodVars_none hV
  have k0 := h0
  have lt0 : ∀ x ∈ p0, x.block < W.heap.size := by obtain ⟨m, hm⟩ := k0; exact DataW.trod_lt m _ _ _ hm
  have k1 := h1
  have lt1 : ∀ x ∈ p1, x.block < W.heap.size := by obtain ⟨m, hm⟩ := k1; exact DataW.trod_lt m _ _ _ hm
  obtain ⟨b0, ln0, cp0, rfl⟩ := okWide_slice Try.underlying48 (hval 0 48 v0 rfl rfl)
  obtain ⟨c0, hc0⟩ : ∃ cs, GL (Value.int .u8) W (.slice b0 ln0 cp0) cs ∧ allU8 cs := by obtain ⟨fuel, hfu⟩ := h0; exact open_u8s Try.underlying48 Try.underlying5 (by kernel_rfl) hfu
  obtain ⟨b1, ln1, cp1, rfl⟩ := okWide_slice Try.underlying48 (hval 1 48 v1 rfl rfl)
  obtain ⟨c1, hc1⟩ : ∃ cs, GL (Value.int .u8) W (.slice b1 ln1 cp1) cs ∧ allU8 cs := by obtain ⟨fuel, hfu⟩ := h1; exact open_u8s Try.underlying48 Try.underlying5 (by kernel_rfl) hfu
  clear hA0 hval0
  refine (FnSavedSeries_walk (w := W) _ c0 hc0.1 hc0.2 _ c1 hc1.1 hc1.2).mono fun e W' ⟨he, bel⟩ => ?_
  subst he
  exact ⟨_, rfl, _, _, _, [], _, [], hW', trodAll_mk1 (shut_bool Try.underlying4 _), (trodAll_cons_mk (Below.trod laidOut (by kernel_rfl) (of_decide_eq_true (by kernel_rfl)) k0 bel lt0) (trodAll_cons_mk (Below.trod laidOut (by kernel_rfl) (of_decide_eq_true (by kernel_rfl)) k1 bel lt1) trodAll_mk0)), rfl, bel.frame _, fun h => by cases h⟩

theorem fnSavedSeries_holds : Rows.FnSavedSeriesSaid :=
  OpenClaim.holds_of_wide 9 Try.f9 rfl rfl rfl rfl rfl rfl rfl ⟨rfl, rfl, rfl, rfl, rfl⟩ rfl rfl rfl rfl rfl (by kernel_rfl) Try.func9 (by kernel_rfl)
    (of_decide_eq_true (by kernel_rfl)) (by unfold Func.isWrapper; first | (rw [if_pos (by decide +kernel)]; kernel_rfl) | (rw [if_neg (by decide +kernel)]; exact ⟨rfl, rfl⟩))
    (fun os started H enc _ => FnSavedSeries_lifted os started H enc)
#print axioms fnSavedSeries_holds

end Go.Proofs.Ytfckfdaloamkdaa
