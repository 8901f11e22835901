/- Contracts: what is saved in front of bytes, by the reference: l07Begin. -/
import Derived.Test.YtfckfdaloamkdaaK134
import Derived.Lib.QuietBelow
namespace Go.Proofs.Ytfckfdaloamkdaa
set_option linter.unusedSimpArgs false
set_option linter.unusedVariables false
set_option maxRecDepth 100000
set_option maxHeartbeats 4000000
open Go.RowKit
attribute [local go_sem] run_store_float run_store_complex alloc_drewN setCell_drewN
theorem lsQ_a {l : List UInt8} (h : l.length < 5) : lsQ l = none := by unfold lsQ ldP; rw [if_pos h]; rfl
theorem lsQ_b {l : List UInt8} (h5 : ¬ l.length < 5) (h : l.length < 5 + (l.getD 4 0).toNat + 5) : lsQ l = none := by unfold lsQ ldP; rw [if_neg h5, if_pos h]; rfl
theorem lsQ_c {l : List UInt8} (h5 : ¬ l.length < 5) (h10 : ¬ l.length < 5 + (l.getD 4 0).toNat + 5) (h : l.length < 5 + (l.getD 4 0).toNat + 5 + 4 * (l.getD (5 + (l.getD 4 0).toNat + 4) 0).toNat + 2) : lsQ l = none := by unfold lsQ ldP; rw [if_neg h5, if_neg h10, if_pos h]; rfl
theorem lsQ_d {l : List UInt8} (h5 : ¬ l.length < 5) (h10 : ¬ l.length < 5 + (l.getD 4 0).toNat + 5) (h : ¬ l.length < 5 + (l.getD 4 0).toNat + 5 + 4 * (l.getD (5 + (l.getD 4 0).toNat + 4) 0).toNat + 2) :
    lsQ l = ldK l ((l.drop 5).take (l.getD 4 0).toNat, leV ((l.drop (5 + (l.getD 4 0).toNat)).take 4), numsV l (5 + (l.getD 4 0).toNat + 5) (l.getD (5 + (l.getD 4 0).toNat + 4) 0).toNat, 5 + (l.getD 4 0).toNat + 5 + 4 * (l.getD (5 + (l.getD 4 0).toNat + 4) 0).toNat + 2) := by
  unfold lsQ ldP; rw [if_neg h5, if_neg h10, if_neg h]; rfl

set_option maxRecDepth 100000 in
theorem s_l07Begin (T : ByteArray) (hT : T.size ≤ 100000000) (w : World) :
    Calls Try.prog 63 #[.string T] w fun e w' => (∃ s d u m, e = .returned (.tuple #[.agg #[.string s, .int .i64 d, u], .int .i64 ((m : Nat) : Int)]) ∧ ∃ ns, (lsQ T.data.toList).getD (⟨#[]⟩, 0, [], 0) = (s, d, ns, m) ∧ GO (Value.float .f32) 54 w.heap.size w' u ns ∧ (∀ i ∈ ns, i < 4294967296)) ∧ Below w.heap.size w w' := by
  have hll : T.data.toList.length = T.size := by simp
  have HQa := Lib.hid (fun h => lsQ_a (l := T.data.toList) h)
  have HQb := Lib.hid (fun h5 h => lsQ_b (l := T.data.toList) h5 h)
  have HQc := Lib.hid (fun h5 h10 h => lsQ_c (l := T.data.toList) h5 h10 h)
  have HQd := Lib.hid (fun h5 h10 h => lsQ_d (l := T.data.toList) h5 h10 h)
  have HG := Lib.hid (fun i (h : i < T.size) => show T.data.toList.getD i 0 = T[i] by simp [List.getD, h]; rfl)
  generalize lsQ T.data.toList = Q at *
  obtain ⟨l, hl⟩ : ∃ l, l = T.data.toList := ⟨_, rfl⟩
  rw [← hl] at hll HQa HQb HQc HQd HG
  have HLT := Lib.hid hl
  clear hl
  have HR := Lib.hid (BK.new w [.string ⟨#[]⟩, .int .i64 0, .slice none 0 0] 34)
  have HW := Lib.hid (show Below w.heap.size w (w.alloc (.cells [.string ⟨#[]⟩, .int .i64 0, .slice none 0 0].toArray 34)) from (Below.refl _ _).alloc (Nat.le_refl _) _)
  by_cases h5 : T.size < 5
  · have HF := Lib.hid (HQa.out (by omega))
    have i5 : (T.size : Int) < 5 := by omega
    go_enter Try.func63, Try.ntmps63
    go_wp2_with (refine wpList_storeAgg (us := [.string ⟨#[]⟩, .int .i64 0, .slice none 0 0]) (storeSd _ _ _ _ _ _ _) rfl rfl (by simp [Value.oneCell']) HR.out (by simp) ?_; intro W hE hO hL hZ hG; have HWz := Lib.hid (hL _ _ HW.out (by omega)); simp [setsAt] at hE; have hce := hE.cells; clear hO hL hG)
    (try simp only [Exit.inBlock, Exit.then])
    exact bodyPost_ret (by simp [results, Try.results63, go_sem, hce]; try rfl) rfl ⟨⟨⟨#[]⟩, 0, .slice none 0 0, 0, rfl, [], by rw [HF.out]; rfl, GO.nil _ _ _, by simp⟩, HWz.out⟩
  have i5 : ¬ (T.size : Int) < 5 := by omega
  have i4 : (4 : Int) < (T.size : Int) := by omega
  have h4 : 4 < T.size := by omega
  have g4 := HG.out 4 h4
  obtain ⟨k, hk⟩ : ∃ k, k = (T[4]'h4).toNat := ⟨_, rfl⟩
  have hk4 : ∀ h, (T[4]'h).toNat = k := fun h => hk.symm
  have hk256 : k < 256 := by rw [hk]; exact (T[4]'h4).toNat_lt
  rw [g4, ← hk] at HQb HQc HQd
  clear g4 hk
  by_cases h10 : T.size < 5 + k + 5
  · have HF := Lib.hid (HQb.out (by omega) (by omega))
    have i10 : (T.size : Int) < 5 + (k : Int) + 5 := by omega
    go_enter Try.func63, Try.ntmps63
    go_wp2_with (refine wpList_storeAgg (us := [.string ⟨#[]⟩, .int .i64 0, .slice none 0 0]) (storeSd _ _ _ _ _ _ _) rfl rfl (by simp [Value.oneCell']) HR.out (by simp) ?_; intro W hE hO hL hZ hG; have HWz := Lib.hid (hL _ _ HW.out (by omega)); simp [setsAt] at hE; have hce := hE.cells; clear hO hL hG)
    (try simp only [Exit.inBlock, Exit.then])
    exact bodyPost_ret (by simp [results, Try.results63, go_sem, hce]; try rfl) rfl ⟨⟨⟨#[]⟩, 0, .slice none 0 0, 0, rfl, [], by rw [HF.out]; rfl, GO.nil _ _ _, by simp⟩, HWz.out⟩
  have i10 : ¬ (T.size : Int) < 5 + (k : Int) + 5 := by omega
  have h9 : 5 + k + 4 < T.size := by omega
  have g9 := HG.out (5 + k + 4) h9
  obtain ⟨n, hn⟩ : ∃ n, n = (T[5 + k + 4]'h9).toNat := ⟨_, rfl⟩
  have hn256 : n < 256 := by rw [hn]; exact (T[5 + k + 4]'h9).toNat_lt
  rw [g9, ← hn] at HQc HQd
  obtain ⟨at_, hat⟩ : ∃ a, a = 5 + k := ⟨_, rfl⟩
  rw [← hat] at HQc HQd
  have HN9 := Lib.hid (show ∀ h, (T[at_ + 4]'h).toNat = n from by subst hat; exact fun h => hn.symm)
  clear g9 hn
  go_enter Try.func63, Try.ntmps63
  go_wp2_with fail
  have ea : (5 : Int) + (k : Int) = (at_ : Int) := by omega
  simp only [ea]
  have j0 : (5 : Int) ≤ (at_ : Int) := by omega
  have j1 : (at_ : Int) ≤ (T.size : Int) := by omega
  obtain ⟨a4, ha4⟩ : ∃ a, a = at_ + 4 := ⟨_, rfl⟩
  have j2 : (at_ : Int) + 4 = (a4 : Int) := by omega
  have j3 : (at_ : Int) ≤ (a4 : Int) := by omega
  have j4 : (a4 : Int) ≤ (T.size : Int) := by omega
  have j9 : IntKind.i64.wrap (a4 : Int) = (a4 : Int) := by rw [IntKind.wrap_i64]; omega
  have j5 : 5 ≤ at_ := by omega
  have j6 : at_ ≤ T.size := by omega
  have j7 : at_ ≤ a4 := by omega
  have j8 : a4 ≤ T.size := by omega
  obtain ⟨x, hx⟩ : ∃ x, x = leV ((l.drop at_).take 4) := ⟨_, rfl⟩
  rw [← hx] at HQd
  have hx4 : x < 4294967296 := by
    have h1 := leV_lt ((l.drop at_).take 4)
    have h2 : 256 ^ ((l.drop at_).take 4).length ≤ 256 ^ 4 := Nat.pow_le_pow_right (by decide) (by rw [List.length_take]; omega)
    have h3 : (256 : Nat) ^ 4 = 4294967296 := by decide
    omega
  have HRD := Lib.hid (show ∀ w, Calls Try.prog 101 #[.string (T.extract at_ a4)] w fun e w' => e = .returned (.int .i64 (x : Int)) ∧ Below w.heap.size w w' from fun w => by
    have h := s_l07Read (T.extract at_ a4) (by rw [tx_piece, tx_size]; simp; omega) w
    have e : leV ((T.extract at_ a4).data.toList.take 4) = x := by rw [tx_piece, tx_data, hx, HLT.out, ha4, List.take_take]; congr 2; omega
    rw [e] at h
    exact h)
  have HRL := Lib.hid (show ∀ p q, q = p + 4 → q ≤ T.size → ∀ w, Calls Try.prog 101 #[.string (T.extract p q)] w fun e w' => e = .returned (.int .i64 (leV ((l.drop p).take 4) : Int)) ∧ Below w.heap.size w w' from fun p q hq hqs w => by
    have h := s_l07Read (T.extract p q) (by rw [tx_piece, tx_size]; simp; omega) w
    have e : leV ((T.extract p q).data.toList.take 4) = leV ((l.drop p).take 4) := by rw [tx_piece, tx_data, HLT.out, hq, List.take_take]; congr 2; omega
    rw [e] at h
    exact h)
  have HNM := Lib.hid (show T.extract 5 at_ = tx ((l.drop 5).take k) by rw [tx_piece, HLT.out, hat]; congr 2; omega)
  have HTX := Lib.hid (fun m => show T.extract 0 m = tx (l.take m) by rw [tx_piece, HLT.out]; rfl)
  have hnz : (T.extract 5 at_).size ≤ 9223372036854775807 := by rw [tx_piece, tx_size]; simp; omega
  have jx : IntKind.i64.wrap ((x : Int) - 1000000) = (x : Int) - 1000000 := by rw [IntKind.wrap_i64]; omega
  clear hx
  have HAT := Lib.hid hat
  have HA4 := Lib.hid ha4
  have H10 := Lib.hid (show at_ + 5 ≤ T.size by omega)
  clear i10 i5 ea hat ha4 h9 h10
  go_cut [5] from 23 to 33 (fun v W => ∃ g, v = .pointer (some ⟨g, 0, none⟩) ∧ Hid (BK W g [.string (T.extract 5 at_), .int .i64 ((x : Int) - 1000000), .slice none 0 0]) ∧ Hid (BK W w.heap.size [.string ⟨#[]⟩, .int .i64 0, .slice none 0 0]) ∧ Hid (Below w.heap.size w W) ∧ w.heap.size < g)
  case first =>
    go_region_held3 (fun W => True) (trivial) (first | (go_at_call 101; refine (HRD.out _).mono ?_; rintro z wx ⟨rfl, hbx⟩; have hzx := hbx.size; (first | (have HX := (BK.drew (BK.newAt (n := w.heap.size + 1) (w.alloc (.cells [.string ⟨#[]⟩, .int .i64 0, .slice none 0 0].toArray 34)) [.string ⟨#[]⟩, .int .i64 0, .slice none 0 0] 34 (by simp))).keep hbx; have HRx := Lib.hid (((HR.out.alloc _).drew).keep hbx); have HWx := Lib.hid ((Below.drew (HW.out.alloc HW.out.size _)).trans (hbx.mono (by simp; omega))); have hx0 := HX.at (i := 0) rfl; have hx1 := HX.at (i := 1) rfl; have hx2 := HX.at (i := 2) rfl; have hxf := HX.fro) | (have HRx := Lib.hid (HR.out.drew.keep hbx); have HWx := Lib.hid ((Below.drew HW.out).trans (hbx.mono (by simp)))))))
    all_goals go_wp2_with fail
    all_goals go_meet
    all_goals first
      | exact ⟨_, rfl, Lib.hid (BK.new _ _ _), Lib.hid (HRx.out.alloc _), Lib.hid (HWx.out.alloc HWx.out.size _), by have h1 := HRx.out.lt; omega⟩
      | exact ⟨_, rfl, Lib.hid (BK.set (BK.set (BK.set HX (j := 0) (by simp) (.string (T.extract 5 at_))) (j := 1) (by simp) (.int .i64 ((x : Int) - 1000000))) (j := 2) (by simp) (.slice none 0 0)), Lib.hid (((HRx.out.other 0 _ (by omega)).other 1 _ (by omega)).other 2 _ (by omega)), Lib.hid (Below.setCell (Below.setCell (Below.setCell HWx.out (Nat.le_succ _) _) (Nat.le_succ _) _) (Nat.le_succ _) _), by omega⟩
  case rest =>
    obtain ⟨g, rfl, HS, HRc, HWc, hg⟩ := hcut
    clear HR HW HRD
    generalize T.extract 5 at_ = nm at *
    have hn9 := HN9.out
    obtain ⟨a5, ha5⟩ : ∃ a, a = at_ + 5 := ⟨_, rfl⟩
    rw [← ha5] at HQc HQd
    have j10 : (at_ : Int) + 5 = (a5 : Int) := by omega
    have j11 : IntKind.i64.wrap (a5 : Int) = (a5 : Int) := by rw [IntKind.wrap_i64]; omega
    have j12 : IntKind.i64.wrap (4 * (n : Int)) = 4 * (n : Int) := by rw [IntKind.wrap_i64]; omega
    have j13 : IntKind.i64.wrap ((a5 : Int) + 4 * (n : Int)) = (a5 : Int) + 4 * (n : Int) := by rw [IntKind.wrap_i64]; omega
    have j14 : IntKind.i64.wrap ((a5 : Int) + 4 * (n : Int) + 2) = (a5 : Int) + 4 * (n : Int) + 2 := by rw [IntKind.wrap_i64]; omega
    have j15 : (at_ : Int) + 4 < (T.size : Int) := by have := H10.out; omega
    have j16 : at_ + 4 < T.size := by omega
    have j17 : (0 : Int) ≤ (a4 : Int) := by omega
    have j18 : (a4 : Int) < (T.size : Int) := by have := HA4.out; have := H10.out; omega
    have j19 : a4 < T.size := by omega
    have hn4 : ∀ h, (T[a4]'h).toNat = n := fun h => by subst ha5; have := hn9 j16; simp only [HA4.out]; exact this
    have HA5 := Lib.hid ha5
    clear ha5
    by_cases h2 : T.size < a5 + 4 * n + 2
    · have HF := Lib.hid (HQc.out (by omega) (by have := HA5.out; omega) (by omega))
      have i2 : (T.size : Int) < (a5 : Int) + 4 * (n : Int) + 2 := by omega
      clear h2
      go_wp2_with (refine wpList_storeAgg (us := [.string ⟨#[]⟩, .int .i64 0, .slice none 0 0]) (storeSd _ _ _ _ _ _ _) rfl rfl (by simp [Value.oneCell']) HRc.out (by simp) ?_; intro W hE hO hL hZ hG; have HWz := Lib.hid (hL _ _ HWc.out (by omega)); simp [setsAt] at hE; have hce := hE.cells; clear hO hL hG)
      (try simp only [Exit.inBlock, Exit.then])
      exact bodyPost_ret (by simp [results, Try.results63, go_sem, hce]; try rfl) rfl ⟨⟨⟨#[]⟩, 0, .slice none 0 0, 0, rfl, [], by rw [HF.out]; rfl, GO.nil _ _ _, by simp⟩, HWz.out⟩
    have HF := Lib.hid (HQd.out (by omega) (by have := HA5.out; omega) (by omega))
    have i2 : ¬ (T.size : Int) < (a5 : Int) + 4 * (n : Int) + 2 := by omega
    go_wp2_with fail
    obtain ⟨D, hD⟩ : ∃ D, D = (x : Int) - 1000000 := ⟨_, rfl⟩
    rw [ldK, ← HNM.out, ← hD] at HF
    rw [← hD] at HS
    clear hD jx j2 j3 j4 j5 j6 j7 j8 j9 j10 j11 j12 j13 j14 j15 j16 j17 j18 j19 hn4 hn9 HN9 HA4 HA5 HAT HG HQa HQb HQc HQd HNM hk4
    go_loopw [4, 6] (fun a i wr => ∃ (j : Nat) (u : Value), j ≤ n ∧ a = .int .i64 ((a5 + 4 * j : Nat) : Int) ∧ i = .int .i64 ((n - j : Nat) : Int) ∧ Hid (BK wr w.heap.size [.string ⟨#[]⟩, .int .i64 0, .slice none 0 0]) ∧ Hid (BK wr g [.string nm, .int .i64 D, u]) ∧ Hid (GO (Value.float .f32) 54 (g + 1) wr u (numsV l a5 j)) ∧ Hid (Below w.heap.size w wr)) (fun _ i _ => (intOf i).toNat)
    case atStart => exact ⟨0, _, Nat.zero_le _, rfl, rfl, HRc, HS, Lib.hid (GO.nil _ _ _), HWc⟩
    case round =>
      obtain ⟨j, u, hj, rfl, rfl, HRr, HSr, HU, HWr⟩ := hrel
      clear HRc HS HWc
      have hgl2 := HSr.out.lt
      obtain ⟨ao, cu, rfl, hcu⟩ := GO.slice HU.out
      have HLN := Lib.hid (numsV_length l a5 j)
      by_cases hlt : j < n
      · have HST := Lib.hid (show numsV l a5 (j + 1) = numsV l a5 j ++ [leV ((l.drop (a5 + 4 * j)).take 4)] from rfl)
        have hy4 : leV ((l.drop (a5 + 4 * j)).take 4) < 4294967296 := numsV_lt l a5 (j + 1) _ (by rw [HST.out]; simp)
        obtain ⟨p, hp⟩ : ∃ p, p = a5 + 4 * j := ⟨_, rfl⟩
        obtain ⟨q, hq⟩ : ∃ q, q = p + 4 := ⟨_, rfl⟩
        have HC := Lib.hid (HRL.out p q hq (by omega))
        rw [← hp] at HST hy4 ⊢
        generalize leV ((l.drop p).take 4) = y at *
        generalize numsV l a5 j = ns at *
        have hnl : ns.length ≤ 255 := by have := HLN.out; omega
        obtain ⟨m, hm⟩ : ∃ m, n - j = m + 1 := ⟨n - j - 1, by omega⟩
        rw [hm]
        simp only [Int.natCast_add, Int.natCast_one]
        have t0 : (0 : Int) < (m : Int) + 1 := by omega
        have t1 : (0 : Int) ≤ (p : Int) := by omega
        have t2 : (p : Int) + 4 = (q : Int) := by omega
        have t3 : (p : Int) ≤ (q : Int) := by omega
        have t4 : (q : Int) ≤ (T.size : Int) := by omega
        have t5 : p ≤ q := by omega
        have t6 : q ≤ T.size := by omega
        have t7 : IntKind.i64.wrap (q : Int) = (q : Int) := by rw [IntKind.wrap_i64]; omega
        have t8 : IntKind.i64.wrap (m : Int) = (m : Int) := by rw [IntKind.wrap_i64]; omega
        have t9 : (m : Int) + 1 - 1 = (m : Int) := by omega
        have HPQ := Lib.hid (show q = a5 + 4 * (j + 1) by omega)
        have HMJ := Lib.hid (show n - (j + 1) = m by omega)
        clear hp hq hm HF HRL HTX HLN i2
        go_wp2_with fail
        refine (HC.out _).mono ?_; rintro z wa ⟨rfl, hb⟩
        have HRa := Lib.hid (HRr.out.keep hb)
        have HSa := Lib.hid (HSr.out.keep hb)
        have HUa := Lib.hid (GO.keep HU.out hb)
        have HWa := Lib.hid (HWr.out.trans (hb.mono HWr.out.size))
        have hza := hb.size
        clear hb HRr HSr HU HWr
        go_wp2_with fail
        refine (s_FromBits y hy4 _).mono ?_; rintro z wb ⟨rfl, hb⟩
        have HRb := Lib.hid (HRa.out.keep hb)
        have HSb := Lib.hid (HSa.out.keep hb)
        have HUb := Lib.hid (GO.keep HUa.out hb)
        have HWb := Lib.hid (HWa.out.trans (hb.mono HWa.out.size))
        have hzb := hb.size
        have hy2 := HSb.out.at (i := 2) rfl
        clear hb HRa HSa HUa HWa
        go_wp2_with (first
          | (at_builtin; refine wpList_gapp (inj := Value.float .f32) oneF32T f32T_one (g + 1) _ _ rfl (GO.alloc HUb.out _) [y] _ 1 rfl rfl (by intro i u hu; cases i with | zero => (simp only [List.getElem?_cons_zero, Option.some.injEq] at hu; subst hu; simp) | succ i => simp at hu) (by simp only [List.length_cons, List.length_nil]; omega) (by simp; omega) ?_; intro v2 wc hown2 hg2; obtain ⟨bo2, co2, rfl, hco2⟩ := GO.slice hown2; have hwc := Wi.of_grown (lo := g + 1) (hi := (wb.alloc (.cells #[.float .f32 y] 54)).heap.size) hg2 (fun g' e => GO.block (GO.alloc HUb.out _) g' e); have HUc := Lib.hid hown2; have HRc := Lib.hid ((HRb.out.alloc (.cells #[.float .f32 y] 54)).wiT hwc (by omega)); have HSc := Lib.hid ((HSb.out.alloc (.cells #[.float .f32 y] 54)).wiT hwc (by omega)); have HWc := Lib.hid (show Below w.heap.size w wc from (HWb.out.alloc HWb.out.size (.cells #[.float .f32 y] 54)).trans (hwc.below (by have := HWb.out.size; simp; omega) (by omega))); clear hown2 hg2 hwc hy2 HUb HRb HSb HWb)
          | (refine wpList_storeBK3 (storeF _ _ _ _ _) rfl rfl rfl HSc.out (by simp) ?_; intro we hE hO hL hZ hG; have HRe := Lib.hid (hO _ _ HRc.out (by omega)); have HWe := Lib.hid (hL _ _ HWc.out (by omega)); have HUe := Lib.hid (GO.kept_offT HUc.out hG (by omega)); simp only [List.set_cons_zero, List.set_cons_succ] at hE; have HSe := Lib.hid hE; clear hE hO hL hG HRc HWc HUc HSc))
        refine ⟨⟨j + 1, _, by omega, by have := HPQ.out; exact congrArg (Value.int .i64) (by omega), by rw [HMJ.out], HRe, HSe, ?_, HWe⟩, by simp [intOf]⟩
        show Hid (GO _ _ _ _ _ _)
        rw [HST.out]
        have h := HUe.out
        simp only [List.length_append, List.length_cons, List.length_nil] at h
        exact Lib.hid h
      · have hjn : j = n := by omega
        subst hjn
        rw [Nat.sub_self]
        simp only [Int.natCast_zero]
        have hall := numsV_lt l a5 j
        generalize numsV l a5 j = ns at *
        have hnl : ns.length ≤ 255 := by have := HLN.out; omega
        have HALL := Lib.hid hall
        obtain ⟨p, hp⟩ : ∃ p, p = a5 + 4 * j := ⟨_, rfl⟩
        obtain ⟨q, hq⟩ : ∃ q, q = p + 2 := ⟨_, rfl⟩
        rw [← hp, ← hq] at HF
        rw [← hp]
        have t2 : (p : Int) + 2 = (q : Int) := by omega
        have t4 : (q : Int) ≤ (T.size : Int) := by omega
        have t5 : (0 : Int) ≤ (q : Int) := by omega
        have t6 : q ≤ T.size := by omega
        have t7 : IntKind.i64.wrap (q : Int) = (q : Int) := by rw [IntKind.wrap_i64]; omega
        clear hall hp hq
        have HSB := Lib.hid (OW.sb (⟨ns, HU.out, rfl, HALL.out⟩ : OW 54 (g + 1) wr _ (ns.map (cn .f32))))
        have HSV := Lib.hid (fun W (h : Below wr.heap.size wr W) => (s_l07SavedAt g 0 nm hnz D _ _ W ((HSr.out.keep h).at (i := 0) rfl) ((HSr.out.keep h).at (i := 1) rfl) ((HSr.out.keep h).at (i := 2) rfl) (HSB.out.sl.keep h)).mono (fun e w' hh => And.intro hh.1 (hh.2.below W.heap.size)))
        have HSTO := Lib.hid (fun hok W (h : Below wr.heap.size wr W) => s_l07Store g 0 nm hnz D _ _ W (HSr.out.keep h).lt ((HSr.out.keep h).at (i := 0) rfl) ((HSr.out.keep h).at (i := 1) rfl) ((HSr.out.keep h).at (i := 2) rfl) (HSB.out.keep h) hok)
        have cSV := fun d os => Calls.regrown_of (d := d) (os := os) (w := wr) (HSV.out (Go.Sort.grow (redrawn wr d) os) (below_regrown wr d os))
        clear HSV
        cases hok : savedOk nm D (ns.map (cn .f32)) with
        | false =>
          have HF := Lib.hid (show Q = none by rw [HF.out, if_neg (fun hh => by rw [hok] at hh; cases hh.1)])
          rw [hok] at cSV
          clear HSTO
          go_wp2_with fail
          refine wp_region_quiet_below (by kernel_rfl) (by kernel_rfl) ?_
          repeat (quiet_step (first | exact cSV _ _))
          refine wpQuiet_nil ?_
          intro w3 hw'
          obtain ⟨⟨dd, osq⟩, hw''⟩ := hw'
          have hbz := below_regrown wr dd osq
          rw [← hw''] at hbz
          clear hw''
          have HRz := Lib.hid (HRr.out.keep hbz)
          have HSz := Lib.hid (HSr.out.keep hbz)
          have HUz := Lib.hid (GO.keep HU.out hbz)
          have HWz := Lib.hid (HWr.out.trans (hbz.mono HWr.out.size))
          have hzz := hbz.size
          clear hbz HRr HSr HU HWr
          clear cSV
          go_wp2_with (refine wpList_storeAgg (us := [.string ⟨#[]⟩, .int .i64 0, .slice none 0 0]) (storeSd _ _ _ _ _ _ _) rfl rfl (by simp [Value.oneCell']) HRz.out (by simp) ?_; intro W hE hO hL hZ hG; have HWf := Lib.hid (hL _ _ HWz.out (by omega)); simp [setsAt] at hE; have hce := hE.cells; clear hO hL hG)
          (try simp only [Exit.inBlock, Exit.then])
          exact bodyPost_ret (by simp [results, Try.results63, go_sem, hce]; try rfl) rfl ⟨⟨⟨#[]⟩, 0, .slice none 0 0, 0, rfl, [], by rw [HF.out]; rfl, GO.nil _ _ _, by simp⟩, HWf.out⟩
        | true =>
          have cST := fun d os => Calls.regrown_of (d := d) (os := os) (w := wr) (HSTO.out hok (Go.Sort.grow (redrawn wr d) os) (below_regrown wr d os))
          rw [hok] at cSV
          clear HSTO
          have HX := Lib.hid (HTX.out q)
          have hq0 : T.extract 0 q = tx (l.take q) := HX.out
          by_cases hx : storeB nm D (ns.map (cn .f32)) = l.take q
          · have HF := Lib.hid (show Q = some (nm, D, ns, q) by rw [HF.out, if_pos ⟨hok, hx⟩])
            have et : (⟨(storeB nm D (ns.map (cn .f32))).toArray⟩ : ByteArray) = T.extract 0 q := by rw [hx]; exact hq0.symm
            rw [et] at cST
            clear et hx hq0 HX hok HSB
            go_wp2_with fail
            refine wp_region_quiet_below (by kernel_rfl) (by kernel_rfl) ?_
            repeat (quiet_step (first | exact cSV _ _ | exact cST _ _))
            refine wpQuiet_nil ?_
            intro w3 hw'
            obtain ⟨⟨dd, osq⟩, hw''⟩ := hw'
            have hbz := below_regrown wr dd osq
            rw [← hw''] at hbz
            clear hw''
            have HRz := Lib.hid (HRr.out.keep hbz)
            have HSz := Lib.hid (HSr.out.keep hbz)
            have HUz := Lib.hid (GO.keep HU.out hbz)
            have HWz := Lib.hid (HWr.out.trans (hbz.mono HWr.out.size))
            have hzz := hbz.size
            clear hbz HRr HSr HU HWr
            clear cSV cST
            have hs0 := HSz.out.at (i := 0) rfl
            have hs1 := HSz.out.at (i := 1) rfl
            have hs2 := HSz.out.at (i := 2) rfl
            go_wp2_with (refine wpList_storeAgg (us := [.string nm, .int .i64 D, .slice ao ns.length cu]) (storeSd _ _ _ _ _ _ _) rfl rfl (by simp [Value.oneCell']) HRz.out (by simp) ?_; intro W hE hO hL hZ hG; have HWf := Lib.hid (hL _ _ HWz.out (by omega)); have HO3 := Lib.hid (GO.kept_offT HUz.out hG (by omega)); simp [setsAt] at hE; have hce := hE.cells; clear hO hL hG)
            (try simp only [Exit.inBlock, Exit.then])
            exact bodyPost_ret (by simp [results, Try.results63, go_sem, hce]; try rfl) rfl ⟨⟨nm, D, _, q, rfl, ns, by rw [HF.out]; rfl, GO.down HO3.out (by omega), HALL.out⟩, HWf.out⟩
          · have HF := Lib.hid (show Q = none by rw [HF.out, if_neg (fun hh => hx hh.2)])
            have et : (⟨(storeB nm D (ns.map (cn .f32))).toArray⟩ : ByteArray) ≠ T.extract 0 q := fun e => hx (tx_inj (e.trans hq0))
            have e3 := str_neT et
            generalize (⟨(storeB nm D (ns.map (cn .f32))).toArray⟩ : ByteArray) = st at *
            clear et hx hq0 HX hok HSB
            go_wp2_with fail
            refine wp_region_quiet_below (by kernel_rfl) (by kernel_rfl) ?_
            repeat (quiet_step (first | exact cSV _ _ | exact cST _ _))
            refine wpQuiet_nil ?_
            intro w3 hw'
            obtain ⟨⟨dd, osq⟩, hw''⟩ := hw'
            have hbz := below_regrown wr dd osq
            rw [← hw''] at hbz
            clear hw''
            have HRz := Lib.hid (HRr.out.keep hbz)
            have HSz := Lib.hid (HSr.out.keep hbz)
            have HUz := Lib.hid (GO.keep HU.out hbz)
            have HWz := Lib.hid (HWr.out.trans (hbz.mono HWr.out.size))
            have hzz := hbz.size
            clear hbz HRr HSr HU HWr
            clear cSV cST
            go_wp2_with (refine wpList_storeAgg (us := [.string ⟨#[]⟩, .int .i64 0, .slice none 0 0]) (storeSd _ _ _ _ _ _ _) rfl rfl (by simp [Value.oneCell']) HRz.out (by simp) ?_; intro W hE hO hL hZ hG; have HWf := Lib.hid (hL _ _ HWz.out (by omega)); simp [setsAt] at hE; have hce := hE.cells; clear hO hL hG)
            (try simp only [Exit.inBlock, Exit.then])
            exact bodyPost_ret (by simp [results, Try.results63, go_sem, hce]; try rfl) rfl ⟨⟨⟨#[]⟩, 0, .slice none 0 0, 0, rfl, [], by rw [HF.out]; rfl, GO.nil _ _ _, by simp⟩, HWf.out⟩

end Go.Proofs.Ytfckfdaloamkdaa
