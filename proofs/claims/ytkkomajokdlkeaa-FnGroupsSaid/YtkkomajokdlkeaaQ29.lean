/- Contracts: groups that are joined, by the reference, where all are there (for FnGroups). -/
import Derived.Deep.QuietTactic
import Derived.BigQuiet
import Derived.Test.YtkkomajokdlkeaaQ28
namespace Go.Proofs.Ytkkomajokdlkeaa
set_option linter.unusedSimpArgs false
set_option linter.unusedVariables false
set_option maxRecDepth 100000
set_option maxHeartbeats 4000000
open Go.RowKit
attribute [local go_sem] run_store_float run_store_complex alloc_drewN setCell_drewN
theorem tr_fin {css : List (List Nat)} {n : Nat} {D : Nat → Nat → Nat} (h : TH css n D) : ∀ r, allFin (trN D n r).2.2 = true
  | 0 => rfl
  | r + 1 => by
    have ih := tr_fin h r
    rw [tr_next]
    show List.all _ _ = true
    rw [List.all_append]
    have h1 : List.all (trN D n r).2.2 fin = true := ih
    have h2 : fin (outT (scN D (trN D n r).1 n n)).1 = true := by
      cases hs : scN D (trN D n r).1 n n with
      | none => show fin 0 = true; decide +kernel
      | some s =>
        obtain ⟨⟨p, q, h1, h2, h3, h4, rfl⟩, -⟩ := (scN_best (D := D) (h.lb r) n (Nat.le_refl _)).some_ s hs
        have hq := h.far p q (by omega) h2
        have hl := h.farL p q (by omega) h2
        by_cases ht : twoOk (rowL css p) (rowL css q) = true
        · rw [farQ_two ht, hl, numB] at hq
          exact congrArg Prod.snd hq
        · rw [farQ_no (by simpa using ht)] at hq
          have := congrArg Prod.snd hq
          cases this
    rw [h1, Bool.true_and]
    show (fin _ && true) = true
    rw [h2]; rfl
theorem sp_some {D : Nat → Nat → Nat} {gs : List Int} {n : Nat} (h : LbOk gs n) {i m : Nat} (hi : i < n) (hm : m ≤ n) {s : Nat × Int × Int} (hs : spIn D gs n i (spN D gs n i) m = some s) : (∃ p q, p < n ∧ q < n ∧ s.1 = D p q) ∧ 0 ≤ s.2.1 ∧ 0 ≤ s.2.2 := by
  obtain ⟨⟨p, q, h1, h2, h3, h4, rfl⟩, -⟩ := (spIn_best h hi (spN_best (D := D) h i (by omega)) m hm).some_ s hs
  have := h.2.2 p (by omega)
  have := h.2.2 q h2
  exact ⟨⟨p, q, by omega, h2, rfl⟩, by dsimp only; omega, by dsimp only; omega⟩
theorem fm_some {D : Nat → Nat → Nat} {gs : List Int} {i k : Int} {n p q : Nat} (hp : p < n) (hq : q ≤ n) {f : Nat} (hf : fmIn D gs i k p (fmN D gs i k n p) q = some f) : ∃ a b, a < n ∧ b < n ∧ f = D a b := by
  obtain ⟨⟨a, b, h1, h2, -, -, -, h3⟩, -⟩ := (fmIn_ok hp (fmN_ok (D := D) (gs := gs) (i := i) (k := k) (n := n) p (by omega)) q hq).2 f hf
  exact ⟨a, b, h1, h2, h3⟩
theorem fmN_some {D : Nat → Nat → Nat} {gs : List Int} {i k : Int} {n : Nat} {f : Nat} (hf : fmN D gs i k n n = some f) : ∃ a b, a < n ∧ b < n ∧ f = D a b := by
  obtain ⟨⟨a, b, h1, h2, -, -, -, h3⟩, -⟩ := (fmN_ok (D := D) (gs := gs) (i := i) (k := k) (n := n) n (Nat.le_refl _)).2 f hf
  exact ⟨a, b, h1, h2, h3⟩
theorem range_snoc (k : Nat) : (List.range (k + 1)).map (fun i : Nat => (i : Int)) = (List.range k).map (fun i : Nat => (i : Int)) ++ [(k : Int)] := by rw [List.range_succ, List.map_append]; rfl

set_option maxHeartbeats 60000000 in
theorem s_TreeOfShapes (v : Value) (css : List (List Nat)) (n : Nat) (D : Nat → Nat → Nat) (w : World) (hv : SS w v css) (h : TH css n D) :
    Calls Try.prog 16 #[v] w fun e w' => (∃ u x, e = .returned (.tuple #[u, x, .bool true]) ∧ GO (Value.int .i64) 2 w.heap.size w' u (trN D n (n - 1)).2.1 ∧ OW 33 w.heap.size w' x (trN D n (n - 1)).2.2) ∧ Below w.heap.size w w' := by
  have H := Lib.hid h
  have hn2 := h.n2
  have hn16 := h.n16
  obtain ⟨ao, c, rfl, hc1, hc2, hget⟩ := hv.get h.len
  have HV := Lib.hid hv
  obtain ⟨b0, off0, u0, e0, hbl0, -, -⟩ := hget 0 (by omega)
  subst e0
  have HC := Lib.hid (show ∀ i, i < n → ∃ y, ∀ w', Below w.heap.size w w' → w'.cell? ⟨b0, off0 + i, none⟩ = some y ∧ SB w' y (rowL css i) from by
    intro i hi
    obtain ⟨b, off, y, e1, hbl, hc, hs⟩ := hget i hi
    simp only [Option.some.injEq, Addr.mk.injEq, and_true] at e1
    obtain ⟨rfl, rfl⟩ := e1
    exact ⟨y, fun w' h => ⟨(h.cell (p := ⟨b0, off0 + i, none⟩) hbl).trans hc, hs.keep h⟩⟩)
  clear hget h hv
  have h2n : ¬ (n : Int) < 2 := by omega
  go_enter Try.func16, Try.ntmps16
  go_wp2_with fail
  refine (s_l07List _ css _ HV.out).mono ?_; rintro e w1 ⟨rfl, hd1⟩
  rw [H.out.ok]
  have hb1 : Below w.heap.size w w1 := hd1.below _
  have hz1 := hb1.size
  clear hd1
  go_wp2_with fail
  go_loopw [33, 6] (fun i u wr => ∃ k : Nat, k ≤ n ∧ i = .int .i64 (k : Int) ∧ Hid (GO (Value.int .i64) 3 w.heap.size wr u ((List.range k).map (fun i : Nat => (i : Int)))) ∧ Below w.heap.size w wr) (fun i _ _ => n - (intOf i).toNat)
  case atStart => exact ⟨0, Nat.zero_le _, rfl, GO.lit (Value.int .i64) 3 w.heap.size w1 [] hz1 (by simp), Below.alloc hb1 hz1 _⟩
  case round =>
    obtain ⟨k, hk, rfl, HG, hb⟩ := hrel
    have hz := hb.size
    by_cases hlt : k < n
    · have hki : (k : Int) < (n : Int) := by omega
      have hsn := range_snoc k
      have hgl : ((List.range k).map (fun i : Nat => (i : Int))).length = k := by simp
      go_wp2_with (at_builtin; refine Hid.out ?_)
      refine Lib.hid ?_
      refine wpList_gapp (inj := Value.int .i64) oneIntR (fun _ => rfl) w.heap.size _ _ rfl (GO.alloc HG.out _) [(k : Int)] _ 1 rfl rfl (by intro i u hu; rcases i with _ | i <;> simp at hu; subst hu; simp) (by rw [hgl]; simp; omega) (by simp; omega) ?_
      intro u3 w3 hown3 hg3
      rw [← hsn] at hown3
      have HG3 := Lib.hid hown3
      have hb3 : Below w.heap.size w w3 := below_of_grown (Below.alloc hb hz _) hg3 (by simp; omega) HG.out.own_ge
      clear hown3 hg3 HG hsn
      go_wp2_with fail
      exact ⟨⟨k + 1, by omega, by go_num, HG3, hb3⟩, by simp [intOf]; omega⟩
    · obtain rfl : k = n := by omega
      have hki : ¬ ((k : Int) < (k : Int)) := by omega
      have HG0 := Lib.hid (show GO (Value.int .i64) 3 w.heap.size wr u6 (trN D k 0).1 from HG.out)
      obtain ⟨wq, hwq⟩ : ∃ wq, wq = wr := ⟨_, rfl⟩
      subst hwq
      obtain ⟨G, cap, hu6, hGw, -, -, -, -⟩ := HG0.out.at_ (k := 0) (by have := (H.out.lb 0).1; omega)
      rw [(H.out.lb 0).1] at hu6
      subst hu6
      clear HG hb1 hz1
      have hsb : IntKind.i64.wrap ((k : Int) - 1) = (k : Int) - 1 := by rw [IntKind.wrap_i64]; omega
      go_wp2_with fail
      go_loopw [8, 9] (fun u x wr => ∃ r : Nat, r ≤ k - 1 ∧ (∃ xo xc, x = .slice xo r xc) ∧ Hid (GO (Value.int .i64) 2 w.heap.size wr u (trN D k r).2.1) ∧ Hid (OW 33 w.heap.size wr x (trN D k r).2.2) ∧ Hid (GO (Value.int .i64) 3 w.heap.size wr (.slice (some ⟨G, 0, none⟩) k cap) (trN D k r).1) ∧ Below w.heap.size w wr) (fun _ x _ => k - 1 - (match x with | .slice _ r _ => r | _ => 0))
      case atStart => exact ⟨0, Nat.zero_le _, ⟨_, _, rfl⟩, GO.alloc (GO.lit (Value.int .i64) 2 w.heap.size wq [] hz (by simp)) _, OW.empty _ _ (by simp) (by simp; omega), GO.alloc (GO.alloc HG0.out _) _, Below.alloc (Below.alloc hb hz _) (by simp; omega) _⟩
      case round =>
        obtain ⟨r, hr, ⟨xo, xc, rfl⟩, HP, HF, HG, hbr⟩ := hrel
        have hzr := hbr.size
        clear hb hz HG0
        obtain ⟨wo, hwo⟩ : ∃ wo, wo = wr := ⟨_, rfl⟩
        subst hwo
        by_cases hlt : r < k - 1
        · have hri : (r : Int) < (k : Int) - 1 := by omega
          have hgl : LbOk (trN D k r).1 k := H.out.lb r
          obtain ⟨gs, hgs⟩ : ∃ gs, gs = (trN D k r).1 := ⟨_, rfl⟩
          rw [← hgs] at HG hgl
          have HGS := Lib.hid hgs
          have HGL := Lib.hid hgl
          have hgn : gs.length = k := hgl.1
          have HLB := Lib.hid (fun i (hi : i < k) => (HG.out.lbAt rfl (i := i) (by omega)).1)
          have HCC := Lib.hid (show ∀ i, i < k → ∃ y, wo.cell? ⟨b0, off0 + i, none⟩ = some y ∧ SB wo y (rowL css i) from fun i hi => by obtain ⟨y, hy⟩ := HC.out i hi; exact ⟨y, hy _ hbr⟩)
          clear hgs hgl
          go_wp2_with fail
          go_loopw [13, 10, 11, 12] (fun iv a b l wr => ∃ i : Nat, i ≤ k ∧ iv = .int .i64 (i : Int) ∧ a = .int .i64 (outT (spN D gs k i)).2.1 ∧ b = .int .i64 (outT (spN D gs k i)).2.2 ∧ l = .float .f32 (outT (spN D gs k i)).1 ∧ ∃ d, wr = wo.drewN d) (fun i _ _ _ _ => k - (intOf i).toNat)
          case atStart => exact ⟨0, Nat.zero_le _, rfl, rfl, rfl, rfl, 0, rfl⟩
          case round =>
            obtain ⟨i, hi, rfl, rfl, rfl, rfl, d, rfl⟩ := hrel
            by_cases hlti : i < k
            · have hii : (i : Int) < (k : Int) := by omega
              have hi1 : IntKind.i64.wrap ((i : Int) + 1) = ((i + 1 : Nat) : Int) := by rw [IntKind.wrap_i64]; omega
              go_wp2_with fail
              go_loopw [14, 10, 11, 12] (fun kv a b l wr => ∃ m : Nat, i + 1 ≤ m ∧ m ≤ k ∧ kv = .int .i64 (m : Int) ∧ a = .int .i64 (outT (spIn D gs k i (spN D gs k i) m)).2.1 ∧ b = .int .i64 (outT (spIn D gs k i (spN D gs k i) m)).2.2 ∧ l = .float .f32 (outT (spIn D gs k i (spN D gs k i) m)).1 ∧ ∃ d, wr = wo.drewN d) (fun kv _ _ _ _ => k - (intOf kv).toNat)
              case atStart => exact ⟨i + 1, Nat.le_refl _, by omega, by first | rfl | go_num, by rw [spIn_first _ _ _ _ _ _ (Nat.le_refl _)], by rw [spIn_first _ _ _ _ _ _ (Nat.le_refl _)], by rw [spIn_first _ _ _ _ _ _ (Nat.le_refl _)], _, rfl⟩
              case round =>
                obtain ⟨m, hm1, hm2, rfl, rfl, rfl, rfl, d, rfl⟩ := hrel
                by_cases hltm : m < k
                · have hmi : (m : Int) < (k : Int) := by omega
                  have hms : IntKind.i64.wrap ((m : Int) + 1) = (m : Int) + 1 := by rw [IntKind.wrap_i64]; omega
                  go_wp2_with fail
                  go_loopw [62, 15, 16] (fun pv f s wr => ∃ p : Nat, p ≤ k ∧ pv = .int .i64 (p : Int) ∧ f = .float .f32 ((fmN D gs (i : Int) (m : Int) k p).getD 0) ∧ s = .bool (fmN D gs (i : Int) (m : Int) k p).isSome ∧ ∃ d, wr = wo.drewN d) (fun pv _ _ _ => k - (intOf pv).toNat)
                  case atStart => exact ⟨0, Nat.zero_le _, rfl, rfl, rfl, _, rfl⟩
                  case round =>
                    obtain ⟨p, hp, rfl, rfl, rfl, d, rfl⟩ := hrel
                    by_cases hltp : p < k
                    · have hpi : (p : Int) < (k : Int) := by omega
                      go_wp2_with fail
                      go_loopw [67, 15, 16] (fun qv f s wr => ∃ q : Nat, q ≤ k ∧ qv = .int .i64 (q : Int) ∧ f = .float .f32 ((fmIn D gs (i : Int) (m : Int) p (fmN D gs (i : Int) (m : Int) k p) q).getD 0) ∧ s = .bool (fmIn D gs (i : Int) (m : Int) p (fmN D gs (i : Int) (m : Int) k p) q).isSome ∧ ∃ d, wr = wo.drewN d) (fun qv _ _ _ => k - (intOf qv).toNat)
                      case atStart => exact ⟨0, Nat.zero_le _, rfl, rfl, rfl, _, rfl⟩
                      case round =>
                        obtain ⟨q, hq, rfl, rfl, rfl, d, rfl⟩ := hrel
                        by_cases hltq : q < k
                        · have hqi : (q : Int) < (k : Int) := by omega
                          have hp0 : 0 ≤ (p : Int) := by omega
                          have hpn : ((p : Int)).toNat = p := by omega
                          have hq0 : 0 ≤ (q : Int) := by omega
                          have hqn : ((q : Int)).toNat = q := by omega
                          have hcp := HLB.out p hltp
                          have hcq := HLB.out q hltq
                          have HN := Lib.hid (show fmIn D gs (i : Int) (m : Int) p (fmN D gs (i : Int) (m : Int) k p) (q + 1) = if lb gs p = (i : Int) ∧ lb gs q = (m : Int) then (match fmIn D gs (i : Int) (m : Int) p (fmN D gs (i : Int) (m : Int) k p) q with | none => some (D p q) | some f => if D p q < f then some (D p q) else some f) else fmIn D gs (i : Int) (m : Int) p (fmN D gs (i : Int) (m : Int) k p) q from rfl)
                          have hfs := fun f => fm_some (D := D) (gs := gs) (i := (i : Int)) (k := (m : Int)) hltp (Nat.le_of_lt hltq) (f := f)
                          have hdv := H.out.fin p q hltp hltq
                          have hdf := H.out.fin
                          have hdl := H.out.farL p q hltp hltq
                          obtain ⟨yp, hyp, hsp⟩ := HCC.out p hltp
                          obtain ⟨yq, hyq, hsq⟩ := HCC.out q hltq
                          have HQF := Lib.hid (fun n => show Calls Try.prog 67 #[yp, yq] (wo.drewN n) (fun e w' => e = .returned (.float .f32 (D p q)) ∧ Dr (wo.drewN n) w') from (s_l07Far yp yq (rowL css p) (rowL css q) (wo.drewN n) (hsp.drewN n) (hsq.drewN n) (by rw [(two_iff.1 (listOk_two H.out.ok (by rw [H.out.len]; exact hltp))).2.2, (two_iff.1 (listOk_two H.out.ok (by rw [H.out.len]; exact hltq))).2.2])).mono fun e w' ⟨⟨r, he, hr, hcr⟩, hd⟩ => ⟨by rw [hdl] at hcr; rw [he, cn32_raw hcr (small_notNaN hdv)], hd⟩)
                          clear hsp hsq hdl
                          generalize fmIn D gs (i : Int) (m : Int) p (fmN D gs (i : Int) (m : Int) k p) q = o at *
                          by_cases h1 : lb gs p = (i : Int)
                          · rw [h1] at hcp
                            by_cases h2 : lb gs q = (m : Int)
                            · rw [h2] at hcq
                              have hn := HN.out
                              rw [if_pos ⟨h1, h2⟩] at hn
                              generalize D p q = dv at *
                              clear HN
                              cases o with
                              | none =>
                                clear hfs hdf hdv
                                go_wp2_with fail
                                go_quiet ((go_at_call 67; first | exact quiet_dr (HQF.out _) | exact quiet_dr2 (HQF.out _)))
                                go_wp2_with fail
                                exact ⟨⟨q + 1, by omega, by go_num, by rw [hn] <;> rfl, by rw [hn] <;> rfl, _, rfl⟩, by simp [intOf]; omega⟩
                              | some f =>
                                obtain ⟨a0, b0', ha0, hb0, rfl⟩ := hfs f rfl
                                have ho := ord_small hdv (hdf a0 b0' ha0 hb0)
                                clear hfs hdf hdv
                                generalize D a0 b0' = f at *
                                dsimp only at hn
                                by_cases hd : dv < f
                                · rw [if_pos hd] at ho hn
                                  clear hd
                                  go_wp2_with fail
                                  go_quiet ((go_at_call 67; first | exact quiet_dr (HQF.out _) | exact quiet_dr2 (HQF.out _)))
                                  go_wp2_with fail
                                  exact ⟨⟨q + 1, by omega, by go_num, by rw [hn] <;> rfl, by rw [hn] <;> rfl, _, rfl⟩, by simp [intOf]; omega⟩
                                · rw [if_neg hd] at ho hn
                                  have ho2 : (FloatKind.f32.format.order dv f == some .lt) = false := by rw [ho]; split <;> rfl
                                  clear hd ho
                                  go_wp2_with fail
                                  go_quiet ((go_at_call 67; first | exact quiet_dr (HQF.out _) | exact quiet_dr2 (HQF.out _)))
                                  go_wp2_with fail
                                  exact ⟨⟨q + 1, by omega, by go_num, by rw [hn] <;> rfl, by rw [hn] <;> rfl, _, rfl⟩, by simp [intOf]; omega⟩
                            · have hn := HN.out
                              rw [if_neg (fun h => h2 h.2)] at hn
                              clear HN hfs hdf hdv
                              generalize lb gs q = lq at *
                              have h2b : (lq == (m : Int)) = false := by simpa using h2
                              go_wp2_with fail
                              exact ⟨⟨q + 1, by omega, by go_num, by rw [hn], by rw [hn], _, rfl⟩, by simp [intOf]; omega⟩
                          · have hn := HN.out
                            rw [if_neg (fun h => h1 h.1)] at hn
                            clear HN hfs hdf hdv
                            generalize lb gs p = lp at *
                            have h1b : (lp == (i : Int)) = false := by simpa using h1
                            go_wp2_with fail
                            exact ⟨⟨q + 1, by omega, by go_num, by rw [hn], by rw [hn], _, rfl⟩, by simp [intOf]; omega⟩
                        · obtain rfl : q = k := by omega
                          have hqi : ¬ ((q : Int) < (q : Int)) := by omega
                          go_wp2_with fail
                          exact ⟨⟨p + 1, by omega, by go_num, rfl, rfl, _, rfl⟩, by simp [intOf]; omega⟩
                    · obtain rfl : p = k := by omega
                      have hpi : ¬ ((p : Int) < (p : Int)) := by omega
                      have HN := Lib.hid (show spIn D gs p i (spN D gs p i) (m + 1) = updS (spIn D gs p i (spN D gs p i) m) (fmN D gs (i : Int) (m : Int) p p) (i : Int) (m : Int) from by rw [spIn, if_pos (by omega)])
                      have hfs := fun f => fmN_some (D := D) (gs := gs) (i := (i : Int)) (k := (m : Int)) (n := p) (f := f)
                      have hss := fun s => sp_some HGL.out (D := D) hlti (Nat.le_of_lt hltm) (s := s)
                      have hdf := H.out.fin
                      generalize spIn D gs p i (spN D gs p i) m = sm at *
                      generalize fmN D gs (i : Int) (m : Int) p p = o at *
                      have hn := HN.out
                      clear HN
                      cases o with
                      | none =>
                        clear hfs hss hdf
                        go_wp2_with fail
                        exact ⟨⟨m + 1, by omega, by omega, by go_num, by rw [hn] <;> rfl, by rw [hn] <;> rfl, by rw [hn] <;> rfl, _, rfl⟩, by simp [intOf]; omega⟩
                      | some f =>
                        obtain ⟨a1, b1, ha1, hb1, rfl⟩ := hfs f rfl
                        have hf1 := hdf a1 b1 ha1 hb1
                        generalize D a1 b1 = f at *
                        cases sm with
                        | none =>
                          clear hfs hss hdf
                          have e1 : outT (none : Bst) = (0, -1, -1) := rfl
                          rw [e1]
                          go_wp2_with fail
                          exact ⟨⟨m + 1, by omega, by omega, by go_num, by rw [hn] <;> rfl, by rw [hn] <;> rfl, by rw [hn] <;> rfl, _, rfl⟩, by simp [intOf]; omega⟩
                        | some s0 =>
                          obtain ⟨f0, a0, b0'⟩ := s0
                          obtain ⟨⟨p0, q0, hp0, hq0, hf0⟩, ha0, hb0⟩ := hss _ rfl
                          have hf2 : f0 < 2139095040 := by have := hdf p0 q0 hp0 hq0; simp only at hf0; omega
                          have ho := ord_small hf1 hf2
                          have e1 : outT (some (f0, a0, b0') : Bst) = (f0, a0, b0') := rfl
                          rw [e1]
                          dsimp only at ha0 hb0 ⊢
                          have hn0 : ¬ a0 < 0 := by omega
                          have hu : updS (some (f0, a0, b0')) (some f) (i : Int) (m : Int) = if f < f0 then some (f, (i : Int), (m : Int)) else some (f0, a0, b0') := rfl
                          rw [hu] at hn
                          clear hfs hss hdf hf0 hu hp0 hq0
                          by_cases hd : f < f0
                          · rw [if_pos hd] at ho hn
                            clear hd
                            go_wp2_with fail
                            exact ⟨⟨m + 1, by omega, by omega, by go_num, by rw [hn] <;> rfl, by rw [hn] <;> rfl, by rw [hn] <;> rfl, _, rfl⟩, by simp [intOf]; omega⟩
                          · rw [if_neg hd] at ho hn
                            have ho2 : (FloatKind.f32.format.order f f0 == some .lt) = false := by rw [ho]; split <;> rfl
                            clear hd ho
                            go_wp2_with fail
                            exact ⟨⟨m + 1, by omega, by omega, by go_num, by rw [hn] <;> rfl, by rw [hn] <;> rfl, by rw [hn] <;> rfl, _, rfl⟩, by simp [intOf]; omega⟩
                · obtain rfl : m = k := by omega
                  have hmi : ¬ ((m : Int) < (m : Int)) := by omega
                  go_wp2_with fail
                  exact ⟨⟨i + 1, by omega, by go_num, rfl, rfl, rfl, _, rfl⟩, by simp [intOf]; omega⟩
            · obtain rfl : i = k := by omega
              have hii : ¬ ((i : Int) < (i : Int)) := by omega
              have hbi : Below wo.heap.size wo (wo.drewN d) := below_drewN (Below.refl _ _) _
              obtain ⟨wi, hwi⟩ : ∃ wi, wi = wo.drewN d := ⟨_, rfl⟩
              rw [← hwi] at hbi ⊢
              have hwis : wi.heap.size = wo.heap.size := by rw [hwi]; simp
              have hbw : Below w.heap.size w wi := hbr.trans (hbi.mono hzr)
              have hzi := hbi.size
              have hzw := hbw.size
              have hTR := tr_next D i r
              rw [← HGS.out, ← sp_sc HGL.out H.out.sym] at hTR
              have hsm := scN_small HGL.out H.out.fin
              rw [← sp_sc HGL.out H.out.sym] at hsm
              have HTR := Lib.hid hTR
              have HP1 := Lib.hid (HP.out.keep hbi)
              have HF1 := Lib.hid (HF.out.keep hbi)
              have HG1 := Lib.hid (HG.out.keep hbi)
              generalize outT (spN D gs i i) = t at *
              obtain ⟨f, a, b⟩ := t
              dsimp only at hTR HTR hsm ⊢
              clear hTR HGS HP HF HG HCC HLB hwi
              have htl := tr_len D i r
              obtain ⟨P, hP⟩ : ∃ P, P = (trN D i r).2.1 := ⟨_, rfl⟩
              obtain ⟨F, hF⟩ : ∃ F, F = (trN D i r).2.2 := ⟨_, rfl⟩
              rw [← hP] at HP1 HTR htl
              rw [← hF] at HF1 HTR htl
              obtain ⟨hPl, hFl⟩ := htl
              clear hP hF
              go_wp2_with fail
              go_loopw [118] (fun qv wr => ∃ q : Nat, q ≤ i ∧ qv = .int .i64 (q : Int) ∧ Hid (GO (Value.int .i64) 3 w.heap.size wr (.slice (some ⟨G, 0, none⟩) i cap) (relP gs a b q)) ∧ Hid (wi.grownBy wr (some G))) (fun qv _ => i - (intOf qv).toNat)
              case atStart => exact ⟨0, Nat.zero_le _, rfl, (by rw [relP_zero]; exact HG1), grown_of_below (Below.refl _ _) _⟩
              case round =>
                obtain ⟨q, hq, rfl, HGq, HBq⟩ := hrel
                by_cases hltq : q < i
                · have hqi : (q : Int) < (i : Int) := by omega
                  have hq0 : 0 ≤ (q : Int) := by omega
                  have hqn : ((q : Int)).toNat = q := by omega
                  have hqs : q < gs.length := by omega
                  have hqs2 : q < (relP gs a b q).length := by rw [relP_length]; exact hqs
                  obtain ⟨hcq, hfq⟩ := HGq.out.lbAt rfl hqs2
                  rw [relP_at hqs] at hcq
                  by_cases he : lb gs q = b
                  · obtain ⟨g, cap', hv1, -, -, -, -, hs1⟩ := HGq.out.at_ hqs2
                    simp only [Value.slice.injEq, Option.some.injEq, Addr.mk.injEq, and_true] at hv1
                    obtain ⟨rfl, -⟩ := hv1
                    obtain ⟨h3, h4⟩ := hs1 a
                    have hset := relP_set (a := a) (b := b) hqs
                    rw [if_pos he] at hset
                    rw [hset] at h3
                    have HG5 := Lib.hid h3
                    have HB5 := Lib.hid (grown_transW HBq.out h4)
                    clear hs1 h3 h4 hset
                    rw [he] at hcq
                    go_wp2_with fail
                    exact ⟨⟨q + 1, by omega, by go_num, HG5, HB5⟩, by simp [intOf]; omega⟩
                  · have HG5 := Lib.hid (show GO (Value.int .i64) 3 w.heap.size wr (.slice (some ⟨G, 0, none⟩) i cap) (relP gs a b (q + 1)) from by rw [← relP_keep hqs he]; exact HGq.out)
                    have hne : (lb gs q == b) = false := by simpa using he
                    go_wp2_with fail
                    exact ⟨⟨q + 1, by omega, by go_num, HG5, HBq⟩, by simp [intOf]; omega⟩
                · obtain rfl : q = i := by omega
                  have hqi : ¬ ((q : Int) < (q : Int)) := by omega
                  obtain ⟨wz, hwz⟩ : ∃ wz, wz = wr := ⟨_, rfl⟩
                  subst hwz
                  have hbz : Below w.heap.size w wz := below_of_grown hbw HBq.out hzw (fun k e => by injection e with e; omega)
                  have hzz := hbz.size
                  have HPz := Lib.hid (GO.kept HP1.out HBq.out (HP1.out.ne_goT HG1.out (by decide)))
                  have HFz := Lib.hid (OW.kept HF1.out HBq.out (HF1.out.ne_go HG1.out (by decide)))
                  have hGz := HGq.out
                  rw [relP_all gs a b hgn] at hGz
                  have HGz := Lib.hid hGz
                  clear HP1 HF1 HG1 HGq HBq hGz hbw hzw hbi
                  go_wp2_with (at_builtin; refine Hid.out ?_)
                  refine Lib.hid ?_
                  refine wpList_gapp (inj := Value.int .i64) oneI64T (fun _ => rfl) w.heap.size _ P rfl (GO.alloc HPz.out _) [a, b] _ 2 rfl rfl (by intro i u hu; exact two_cellsT _ _ _ _ i u hu) (by simp; omega) (by simp; omega) ?_
                  intro u3 w3 hown3 hg3
                  have HP3 := Lib.hid hown3
                  have HF3 := Lib.hid (OW.kept (OW.alloc HFz.out _) hg3 (HFz.out.ne_go HPz.out (by decide)))
                  have HG3 := Lib.hid (GO.kept (GO.alloc HGz.out _) hg3 (HGz.out.ne_goT HPz.out (by decide)))
                  have hb3 : Below w.heap.size w w3 := below_of_grown (Below.alloc hbz hzz _) hg3 (by simp; omega) HPz.out.own_ge
                  have hz3 := hb3.size
                  clear hown3 hg3 HPz HFz HGz
                  have hcf : cn .f32 f = f := cn_of_not (small_notNaN hsm)
                  go_wp2_with (at_builtin; refine Hid.out ?_)
                  refine Lib.hid ?_
                  refine wpList_app1 f32s w.heap.size _ F rfl (OW.alloc HF3.out _) _ f rfl (by simp) (by omega) (by omega) (by simp; omega) ?_
                  intro x4 w4 hown4 hg4
                  rw [hcf] at hown4
                  have HF4 := Lib.hid hown4
                  have HP4 := Lib.hid (GO.kept (GO.alloc HP3.out _) hg4 (HF3.out.ne_ow' HP3.out (by decide)))
                  have HG4 := Lib.hid (GO.kept (GO.alloc HG3.out _) hg4 (HF3.out.ne_ow' HG3.out (by decide)))
                  have hb4 : Below w.heap.size w w4 := below_of_grown (Below.alloc hb3 hz3 _) hg4 (by simp; omega) HF3.out.own_ge
                  obtain ⟨xo4, xc4, hx4, -⟩ := hown4.sb.sl.slice
                  have hx5 : x4 = .slice xo4 (r + 1) xc4 := by rw [hx4]; simp [hFl]
                  clear hown4 hg4 HP3 HF3 HG3 hx4
                  subst hx5
                  go_wp2_with fail
                  exact ⟨⟨r + 1, by omega, ⟨xo4, xc4, rfl⟩, by rw [HTR.out]; exact HP4, by rw [HTR.out]; exact HF4, by rw [HTR.out]; exact HG4, hb4⟩, by dsimp only; omega⟩
        · obtain rfl : r = k - 1 := by omega
          have hri : ¬ (((k - 1 : Nat) : Int) < (k : Int) - 1) := by omega
          have HFI := Lib.hid (tr_fin H.out (k - 1))
          go_wp2_with fail
          refine (s_l02Finite _ _ _ HF.out.sb.sl).mono ?_
          rintro e w8 ⟨rfl, n8, rfl⟩
          rw [HFI.out]
          go_wp2_with fail
          go_ret3
          exact ⟨⟨_, _, rfl, HP.out.drewN _, HF.out.drewN _⟩, below_drewN hbr _⟩

end Go.Proofs.Ytkkomajokdlkeaa
