/- Contracts: least costs and ways, by the program. -/
import Derived.Test.YtnhenklopigfnaaK164
import Derived.Test.YtnhenklopigfnaaGen
namespace Go.Proofs.Ytnhenklopigfnaa
set_option linter.unusedSimpArgs false
set_option linter.unusedVariables false
set_option maxRecDepth 100000
set_option maxHeartbeats 4000000
open Go.RowKit
attribute [local go_sem] run_store_float run_store_complex alloc_drewN setCell_drewN
theorem costs_some {sz : Nat → Nat} {ge : Nat → Bool} {cs ds : List Nat} {window : Int} (h : (costsQ sz ge cs ds window).2 = true) : wpOk cs ds window = true ∧ allFin (wpC sz ge cs ds window) = true ∧ (costsQ sz ge cs ds window).1 = wpC sz ge cs ds window := by
  cases ho : wpOk cs ds window
  · rw [costsQ, ho] at h; cases h
  · rw [costsQ, ho] at h ⊢
    have h' : allFin (wpC sz ge cs ds window) = true := h
    refine ⟨rfl, h', ?_⟩
    show (if allFin (wpC sz ge cs ds window) then wpC sz ge cs ds window else []) = _
    rw [h']; rfl
theorem yes_none {sz : Nat → Nat} {ge : Nat → Bool} {cs ds : List Nat} {window : Int} (h : (costsQ sz ge cs ds window).2 = false) : wpYes sz ge cs ds window = false := by
  cases ho : wpOk cs ds window
  · rw [wpYes, ho]; rfl
  · rw [costsQ, ho] at h
    have h' : allFin (wpC sz ge cs ds window) = false := h
    rw [wpYes, ho, h']; rfl
theorem last_lt {n m : Nat} (hn : 1 ≤ n) (hm : 1 ≤ m) : n * m - 1 < n * m := by
  have : 1 * 1 ≤ n * m := Nat.mul_le_mul hn hm
  omega
theorem wBack_more (ge : Nat → Bool) (hg : ge neg1 = false) (C : List Nat) (wide : Nat) : ∀ (n m : Nat) (i k : Int), 0 ≤ i → 0 ≤ k → (i + k).toNat < n → (i + k).toNat < m → wBack ge C wide n i k = wBack ge C wide m i k
  | 0, _, _, _, _, _, h, _ => by omega
  | _ + 1, 0, _, _, _, _, _, h => by omega
  | n + 1, m + 1, i, k, hi, hk, h1, h2 => by
    rw [wBack, wBack]
    cases h : wThree ge C wide i k 3 with
    | none => rfl
    | some b =>
      obtain ⟨p1, p2, p3, p4, p5⟩ := wThree_place hg h
      dsimp only
      rw [wBack_more ge hg C wide n m _ _ p1 p2 (by omega) (by omega)]

theorem i_WarpFar (u v : Value) (cs ds : List Nat) (window : Int) (w : World) (hu : SB w u cs) (hv : SB w v ds) :
    Calls Try.prog 45 #[u, v, .int .i64 window] w fun e w' => (∃ r b, e = .returned (.tuple #[.float .f32 r, .bool b]) ∧ r < 4294967296 ∧ cn .f32 r = (wfarQ szI geI cs ds window).1 ∧ b = (wfarQ szI geI cs ds window).2) ∧ Below w.heap.size w w' := by
  have HU := Lib.hid hu
  have HV := Lib.hid hv
  clear hu hv
  cases hok : (costsQ szI geI cs ds window).2
  · have HOK := Lib.hid hok
    have HNO := Lib.hid (yes_none hok)
    clear hok
    go_enter Try.func45, Try.ntmps45
    go_wp2_with fail
    refine (i_WarpCosts _ _ cs ds window _ HU.out HV.out).mono ?_; rintro e w1 ⟨⟨s, b, rfl, hs, hb⟩, hbl⟩
    rw [HOK.out] at hb
    subst hb
    go_wp2_with fail
    go_ret2
    exact ⟨⟨_, _, rfl, by decide, by rw [wfarQ, HNO.out]; exact cn0, by rw [wfarQ, HNO.out]; rfl⟩, hbl⟩
  · obtain ⟨hko, hka, hkl⟩ := costs_some hok
    obtain ⟨p1, p2, p3, p4, p5, p6, p7, p8⟩ := wpOk_parts hko
    have HOK := Lib.hid hok
    have HYE := Lib.hid (show wpYes szI geI cs ds window = !fc .lss .f32 ((wpC szI geI cs ds window).getD (cs.length * ds.length - 1) 0) 0 by rw [wpYes, hko, hka]; rfl)
    have HKL := Lib.hid hkl
    clear hok hkl
    have HQF := Lib.hid (fun (h : fc .lss .f32 ((wpC szI geI cs ds window).getD (cs.length * ds.length - 1) 0) 0 = false) => show wfarQ szI geI cs ds window = ((wpC szI geI cs ds window).getD (cs.length * ds.length - 1) 0, true) by rw [wfarQ, HYE.out, h]; rfl)
    have HQT := Lib.hid (fun (h : fc .lss .f32 ((wpC szI geI cs ds window).getD (cs.length * ds.length - 1) 0) 0 = true) => show wfarQ szI geI cs ds window = (0, false) by rw [wfarQ, HYE.out, h]; rfl)
    clear HYE
    have hNN : cs.length * ds.length ≤ 96 * 96 := Nat.mul_le_mul p4 p6
    have hlast := last_lt p3 p5
    have HCL := Lib.hid (wpC_length szI geI cs ds window)
    generalize cs.length * ds.length = NN at *
    cases hl : fc .lss .f32 ((wpC szI geI cs ds window).getD (NN - 1) 0) 0
    all_goals
      have HL := Lib.hid hl
      clear hl
      go_enter Try.func45, Try.ntmps45
      go_wp2_with fail
      refine (i_WarpCosts _ _ cs ds window _ HU.out HV.out).mono ?_; rintro e w1 ⟨⟨s, b, rfl, hs, hb⟩, hbl⟩
      rw [HOK.out] at hb
      subst hb
      rw [HKL.out] at hs
      obtain ⟨so, sc, rfl, -, -, hget⟩ := hs.sb.get HCL.out
      obtain ⟨bb, oo, r, rfl, hbl1, hcell, hr, hcr⟩ := hget (NN - 1) hlast
      have hoL := order_of_lssW (x := r) (y := 0) ((show fc .lss .f32 (cn .f32 r) (cn .f32 0) = fc .lss .f32 ((wpC szI geI cs ds window).getD (NN - 1) 0) 0 by rw [hcr, cn0]).trans HL.out)
      have hz1 : (NN : Int) - 1 = ((NN - 1 : Nat) : Int) := by omega
      have hw1 : IntKind.i64.wrap ((NN : Int) - 1) = ((NN - 1 : Nat) : Int) := by rw [IntKind.wrap_i64]; omega
      have HCR := Lib.hid hcr
      clear hs hget hcr
      generalize hn1 : NN - 1 = n1 at *
      have hzi : (n1 : Int) < (NN : Int) := by omega
      have hz0 : 0 ≤ (n1 : Int) := by omega
      have hzn : ((n1 : Int)).toNat = n1 := by omega
      go_wp2_with fail
      go_ret2
    · exact ⟨⟨_, _, rfl, hr, by rw [HQF.out HL.out]; exact HCR.out, by rw [HQF.out HL.out]⟩, hbl⟩
    · exact ⟨⟨_, _, rfl, by decide, by rw [HQT.out HL.out]; exact cn0, by rw [HQT.out HL.out]⟩, hbl⟩
theorem two_cells (w : World) (x y : Int) (T : TypeId) : ∀ i u, [x, y][i]? = some u → (w.alloc (.cells #[.int .i64 x, .int .i64 y] T)).cell? ⟨w.heap.size, i, none⟩ = some (.int .i64 u)
  | 0, u, h => by simp at h; subst h; simp
  | 1, u, h => by simp at h; subst h; simp
  | i + 2, u, h => by simp at h

theorem oneI64W : OneC Try.prog 34 2 (.int .i64 0) 8 := oneC_of Try.underlying34 (by kernel_rfl) rfl (by decide)
theorem i_WarpWay (u v : Value) (cs ds : List Nat) (window : Int) (w : World) (hu : SB w u cs) (hv : SB w v ds) :
    Calls Try.prog 41 #[u, v, .int .i64 window] w fun z w' => IB 2 w.heap.size w' z (wayQ szI geI cs ds window) ∧ Below w.heap.size w w' := by
  have HU := Lib.hid hu
  have HV := Lib.hid hv
  cases hy : wpYes szI geI cs ds window
  · have HWQ := Lib.hid (show wayQ szI geI cs ds window = ([], false) by rw [wayQ, hy]; rfl)
    have HFQ := Lib.hid (show (wfarQ szI geI cs ds window).2 = false by rw [wfarQ, hy]; rfl)
    clear hu hv hy
    go_enter Try.func41, Try.ntmps41
    go_wp2_with fail
    refine (i_WarpFar _ _ cs ds window _ HU.out HV.out).mono ?_; rintro e w1 ⟨⟨r, b, rfl, hr, -, hb⟩, hbl⟩
    rw [HFQ.out] at hb
    subst hb
    go_wp2_with fail
    go_ret2
    exact ⟨IB.no _ _ _ HWQ.out, hbl⟩
  · have HWQ := Lib.hid (show wayQ szI geI cs ds window = (wBack geI (wpC szI geI cs ds window) ds.length (cs.length + ds.length) ((cs.length : Int) - 1) ((ds.length : Int) - 1), true) by rw [wayQ, hy]; rfl)
    have HFQ := Lib.hid (show (wfarQ szI geI cs ds window).2 = true by rw [wfarQ, hy]; rfl)
    obtain ⟨p1, p2, p3, p4, p5, p6, p7, p8⟩ := wpOk_parts (show wpOk cs ds window = true by simp only [wpYes, Bool.and_eq_true] at hy; exact hy.1.1)
    obtain ⟨ao, ac, rfl, -, -⟩ := hu.sl.slice2
    obtain ⟨bo, bc, rfl, -, -⟩ := hv.sl.slice2
    have HP1 := Lib.hid p1
    have HP2 := Lib.hid p2
    clear hu hv hy p1 p2 p7 p8
    have hw1 : IntKind.i64.wrap ((cs.length : Int) - 1) = (cs.length : Int) - 1 := by rw [IntKind.wrap_i64]; omega
    have hw2 : IntKind.i64.wrap ((ds.length : Int) - 1) = (ds.length : Int) - 1 := by rw [IntKind.wrap_i64]; omega
    go_enter Try.func41, Try.ntmps41
    go_wp2_with fail
    refine (i_WarpFar _ _ cs ds window _ HU.out HV.out).mono ?_; rintro e w1 ⟨⟨r, b, rfl, hr, -, hb⟩, hbl⟩
    rw [HFQ.out] at hb
    subst hb
    have hz1 := hbl.size
    go_wp2_with fail
    refine (i_warped _ _ cs ds window _ (HU.out.keep hbl) (HV.out.keep hbl) HP1.out HP2.out p3 p4 p5 p6).mono ?_; rintro e w2 ⟨⟨s, rfl, hs⟩, hb⟩
    obtain ⟨so, sc, rfl, -⟩ := hs.sb.sl.slice
    have HS := Lib.hid hs
    have HBL := Lib.hid (hbl.trans (hb.mono hz1))
    have hz2 := HBL.out.size
    clear hs hb hbl hz1
    go_wp2_with fail
    obtain ⟨C, hC⟩ : ∃ C, C = wpC szI geI cs ds window := ⟨_, rfl⟩
    have HCL := Lib.hid (show C.length = cs.length * ds.length by rw [hC]; exact wpC_length ..)
    rw [← hC] at HS HWQ ⊢
    clear hC
    obtain ⟨W, hW⟩ : ∃ W, W = wBack geI C ds.length (cs.length + ds.length) ((cs.length : Int) - 1) ((ds.length : Int) - 1) := ⟨_, rfl⟩
    have HW0 := Lib.hid (show W = wBack geI C ds.length (cs.length - 1 + (ds.length - 1) + 1) ((cs.length - 1 : Nat) : Int) ((ds.length - 1 : Nat) : Int) ++ ([] : List Int).reverse by
      rw [hW, List.reverse_nil, List.append_nil, show (cs.length : Int) - 1 = ((cs.length - 1 : Nat) : Int) by omega, show (ds.length : Int) - 1 = ((ds.length - 1 : Nat) : Int) by omega]
      exact wBack_more geI neg1_ge.1 C ds.length _ _ _ _ (by omega) (by omega) (by omega) (by omega))
    rw [← hW] at HWQ
    clear hW
    go_loopw [11, 12, 13] (fun o i k wr => ∃ (a b : Nat) (O : List Int), a < cs.length ∧ b < ds.length ∧ i = .int .i64 (a : Int) ∧ k = .int .i64 (b : Int) ∧ Hid (GO (Value.int .i64) 2 (w2.heap.size + 1) wr o O) ∧ Hid (BK wr w2.heap.size [.slice so C.length sc, .int .i64 ds.length]) ∧ Hid (W = wBack geI C ds.length (a + b + 1) a b ++ O.reverse) ∧ Hid (O.length + 2 * (a + b + 1) ≤ 400) ∧ Below w2.heap.size w2 wr) (fun _ i k _ => (intOf i).toNat + (intOf k).toNat)
    case atStart => exact ⟨cs.length - 1, ds.length - 1, [], by omega, by omega, by congr 1; omega, by congr 1; omega, Lib.hid (GO.empty _ _ (by simp) (by simp)), Lib.hid (BK.alloc (BK.newAtW _ _ _ rfl) _), HW0, Lib.hid (by simp; omega), by (repeat (first | with_reducible exact Below.refl _ _ | with_reducible assumption | with_reducible refine below_drewN ?_ _ | with_reducible refine Below.drew ?_ | with_reducible refine Below.alloc ?_ (by first | omega | (simp; omega) | (simp; done) | (simp at *; omega)) _ | with_reducible refine Below.setCell ?_ (by first | omega | (simp; omega) | (simp; done) | (simp at *; omega)) _ | refine Below.trans ?_ (Below.mono (by with_reducible assumption) (by first | omega | (simp; omega) | (simp; done) | (simp at *; omega)))))⟩
    case round =>
      clear HW0
      obtain ⟨a, b, O, ha, hbb, rfl, rfl, HO, HB, HW, HL, hb⟩ := hrel
      have hz := hb.size
      have hlb := HB.out.lt
      have hw3 : IntKind.i64.wrap (a : Int) = (a : Int) := by rw [IntKind.wrap_i64]; omega
      have hw4 : IntKind.i64.wrap (b : Int) = (b : Int) := by rw [IntKind.wrap_i64]; omega
      go_wp2_with (at_builtin; refine wpList_gapp (inj := Value.int .i64) oneI64W (fun _ => rfl) (w2.heap.size + 1) _ O rfl (GO.alloc HO.out _) [(b : Int), (a : Int)] _ 2 rfl rfl (by intro i u hu; exact two_cells _ _ _ _ i u hu) (by have := HL.out; simp only [List.length_cons, List.length_nil]; omega) (by simp; omega) ?_; intro v3 w3 hown hg; have HO3 := Lib.hid hown; have HB3 := Lib.hid (BK.grownW (BK.alloc HB.out _) hg (fun e => by have := HO.out.own_ge _ e; omega)); have hb3 : Below w2.heap.size w2 w3 := below_of_grown (by (repeat (first | with_reducible exact Below.refl _ _ | with_reducible assumption | with_reducible refine below_drewN ?_ _ | with_reducible refine Below.drew ?_ | with_reducible refine Below.alloc ?_ (by first | omega | (simp; omega) | (simp; done) | (simp at *; omega)) _ | with_reducible refine Below.setCell ?_ (by first | omega | (simp; omega) | (simp; done) | (simp at *; omega)) _ | refine Below.trans ?_ (Below.mono (by with_reducible assumption) (by first | omega | (simp; omega) | (simp; done) | (simp at *; omega)))))) hg (by simp; omega) (fun k hk => by have := HO.out.own_ge k hk; omega); have hz3 := hb3.size; clear hown hg; have hca := HB3.out.cells; have hlb3 := HB3.out.lt)
      refine (i_wbefore so sc C ds.length a b w3 ((HS.out.keep hb3).sb) (by omega) hbb p6 (by
        rw [HCL.out]
        have : (a + 1) * ds.length ≤ cs.length * ds.length := Nat.mul_le_mul_right _ ha
        rw [Nat.add_mul] at this
        omega)).mono ?_; rintro z w4 ⟨rfl, hb4⟩
      have HO4 := Lib.hid (HO3.out.keep hb4)
      have HB4 := Lib.hid (HB3.out.keep hb4)
      have hbw4 : Below w2.heap.size w2 w4 := hb3.trans (hb4.mono hz3)
      have hz4 := hbw4.size
      clear hca hlb3 HO3 HB3 hb3 hb4 hz3 HO HB hb hz hlb
      have hca := HB4.out.cells
      have hlb := HB4.out.lt
      cases ho : wThree geI C ds.length a b 3 with
      | none =>
        have HWX := Lib.hid (show W = (O ++ [(b : Int), (a : Int)]).reverse by rw [HW.out, wBack, ho]; simp)
        have HOL := Lib.hid (show (O ++ [(b : Int), (a : Int)]).length < 1000000 by have := HL.out; simp; omega)
        clear ho HW
        go_wp2_with fail
        refine (f_Reverse _ _ _ _ HO4.out HOL.out).mono ?_; rintro z w5 ⟨rfl, hrv, hB5, -⟩
        rw [← HWX.out] at hrv
        have HRV := Lib.hid hrv
        have HB5 := Lib.hid (HBL.out.trans ((hB5 w2.heap.size (fun g hg => by have := HO4.out.own_ge g hg; omega) _ hbw4).mono hz2))
        clear hrv hB5
        go_wp2_with fail
        go_ret2
        exact ⟨⟨_, _, rfl, by rw [HWQ.out]; exact HRV.out.down (by omega), by rw [HWQ.out]⟩, HB5.out⟩
      | some q =>
        obtain ⟨q1, q2, q3, q4, q5⟩ := wThree_place neg1_ge.1 ho
        obtain ⟨a2, ha2⟩ : ∃ a2 : Nat, candI q.1 (a : Int) = (a2 : Int) := ⟨(candI q.1 (a : Int)).toNat, by omega⟩
        obtain ⟨b2, hb2⟩ : ∃ b2 : Nat, candK q.1 (b : Int) = (b2 : Int) := ⟨(candK q.1 (b : Int)).toNat, by omega⟩
        have HWX := Lib.hid (show W = wBack geI C ds.length (a2 + b2 + 1) a2 b2 ++ (O ++ [(b : Int), (a : Int)]).reverse by
          rw [HW.out, wBack, ho]
          dsimp only
          rw [ha2, hb2, wBack_more geI neg1_ge.1 C ds.length (a + b) (a2 + b2 + 1) a2 b2 (by omega) (by omega) (by omega) (by omega)]
          simp)
        have HLX := Lib.hid (show (O ++ [(b : Int), (a : Int)]).length + 2 * (a2 + b2 + 1) ≤ 400 by have := HL.out; simp; omega)
        have e1 : wbI (a : Int) (some q) = (a2 : Int) := ha2
        have e2 : wbK (b : Int) (some q) = (b2 : Int) := hb2
        rw [e1, e2]
        have hs1 : a2 + b2 < a + b := by omega
        have hs2 : a2 < cs.length := by omega
        have hs3 : b2 < ds.length := by omega
        clear ho HW e1 e2 ha2 hb2
        go_wp2_with fail
        exact ⟨⟨a2, b2, _, by omega, by omega, rfl, rfl, HO4, HB4, HWX, HLX, hbw4⟩, by simp [intOf]; omega⟩

end Go.Proofs.Ytnhenklopigfnaa
