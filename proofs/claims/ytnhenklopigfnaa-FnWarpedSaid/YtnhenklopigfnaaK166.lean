/- Contracts: costs and ways, by the reference. -/
import Derived.Test.YtnhenklopigfnaaK165
namespace Go.Proofs.Ytnhenklopigfnaa
set_option linter.unusedSimpArgs false
set_option linter.unusedVariables false
set_option maxRecDepth 100000
set_option maxHeartbeats 4000000
open Go.RowKit
attribute [local go_sem] run_store_float run_store_complex alloc_drewN setCell_drewN
section
variable {α : Type} {inj : α → Value} {P : Program} {S T : Nat} {z : Value} {by_ : Nat}
/-- append of what lies in a block, whatever its room. -/
theorem wpList_gappC (F : OneC P S T z by_) (hinj : ∀ x, (inj x).oneCell' = true) {ops : Array Oper} {Q : Exit → Act → World → Prop} {a : Act} {w : World} {rest : List Oper} {dst : Option Tmp} {s x : Operand} {type : TypeId} {pos : String} {after : Array Edge}
    (lo : Nat) (v : Value) (xs : List α) (hs : a.eval s = v) (hown : GO inj T lo w v xs) (ys : List α) (b m c : Nat) (hm : m = ys.length) (hx : a.eval x = .slice (some ⟨b, 0, none⟩) m c) (hc : ∀ i u, ys[i]? = some u → w.cell? ⟨b, i, none⟩ = some (inj u))
    (hl : xs.length + ys.length < 1099511627776) (hbase : lo ≤ w.heap.size)
    (h : ∀ v' w', GO inj T lo w' v' (xs ++ ys) → w.grownBy w' v.ownBlock → wpList P ops Q rest (a.put dst v') w') :
    wpList P ops Q ({ dst := dst, op := .call { callee := .builtin .append, args := #[s, x], argTypes := #[S, S] }, type := type, pos := pos, after := after, guard := none } :: rest) a w := by
  obtain ⟨i, hi, hz, hsz, hby⟩ := F.info
  have h16 := F.small
  subst hm
  refine wpList_append_own (P := P) w rfl s x S rfl lo T i z 1 by_ F.slice hi hz hsz hby (by rw [F.one]; rfl) (by decide) v xs.length _ hs hown ⟨b, 0, none⟩ ys.length c (ys.map inj) hx (by simp) ?_ ?_ ?_ ?_ hbase ?_
  · intro j u hu
    rw [List.getElem?_map] at hu
    obtain ⟨y, hy, rfl⟩ := Option.map_eq_some_iff.1 hu
    rw [Addr.add_lit, Nat.zero_add]
    exact hc j y hy
  · intro u hu
    obtain ⟨y, _, rfl⟩ := List.mem_map.1 hu
    exact hinj y
  · have : maxLen = 9223372036854775807 := rfl
    omega
  · have : (xs.length + ys.length) * by_ ≤ 1099511627776 * 32 := Nat.mul_le_mul (by omega) h16
    omega
  · intro v' w' h1 h2 _
    refine h v' w' ?_ h2
    unfold GO
    rw [List.length_append, List.map_append]
    exact h1
end
theorem GO.two (w : World) (x y : Int) (T : TypeId) {lo : Nat} (hb : lo ≤ w.heap.size) : GO (Value.int .i64) T lo (w.alloc (.cells #[.int .i64 x, .int .i64 y] T)) (.slice (some ⟨w.heap.size, 0, none⟩) 2 2) [x, y] := by
  have := World.ownsRow_lit (e := T) (size := 1) w #[.int .i64 x, .int .i64 y] 2 hb (by simp [maxLen]) rfl
  simpa [GO] using this

theorem s_l07Can (u v : Value) (cs ds : List Nat) (window : Int) (w : World) (hu : SL w u cs) (hv : SL w v ds) :
    Calls Try.prog 131 #[u, v, .int .i64 window] w fun e w' => e = .returned (.bool (wpOk cs ds window)) ∧ Dr w w' := by
  have hq : wpOk cs ds window = (series cs && series ds && inB window 0 96) := by unfold wpOk inB; rw [Bool.and_assoc]
  rw [hq]
  clear hq
  have HU := Lib.hid hu
  have HV := Lib.hid hv
  clear hu hv
  cases h1 : series cs
  all_goals
    have H1 := Lib.hid h1
    clear h1
    cases h2 : series ds
    all_goals
      have H2 := Lib.hid h2
      clear h2
      go_enter Try.func131, Try.ntmps131
      go_wp2_with fail
      refine (s_l02Series _ cs _ HU.out).mono ?_; rintro e w1 ⟨rfl, n1, rfl⟩
      rw [H1.out]
      go_wp2_with fail
      first
        | (go_ret; exact ⟨rfl, Dr.mk _ _⟩)
        | (refine (s_l02Series _ ds _ (HV.out.drewN _)).mono ?_; rintro e w2 ⟨rfl, n2, rfl⟩
           rw [H2.out]
           go_wp2_with fail
           first
             | (go_ret; exact ⟨rfl, Dr.mk _ _⟩)
             | (refine (s_l00In _ _ _ _).mono ?_; rintro e w3 ⟨rfl, n3, rfl⟩
                go_wp2_with fail
                go_ret
                exact ⟨rfl, Dr.mk _ _⟩))

theorem s_WarpCosts (u v : Value) (cs ds : List Nat) (window : Int) (w : World) (hu : SB w u cs) (hv : SB w v ds) :
    Calls Try.prog 93 #[u, v, .int .i64 window] w fun e w' => LB 27 w.heap.size w' e (costsQ szS geS cs ds window) ∧ Below w.heap.size w w' := by
  have HU := Lib.hid hu
  have HV := Lib.hid hv
  clear hu hv
  cases hok : wpOk cs ds window
  · have HOK := Lib.hid hok
    clear hok
    go_enter Try.func93, Try.ntmps93
    go_wp2_with fail
    refine (s_l07Can _ _ cs ds window _ HU.out.sl HV.out.sl).mono ?_; rintro e w1 ⟨rfl, n1, rfl⟩
    rw [HOK.out]
    go_wp2_with fail
    go_ret2
    exact ⟨LB.no _ _ _ (by rw [costsQ, HOK.out]; rfl), by (repeat (first | exact Below.refl _ _ | assumption | refine below_drewN ?_ _ | refine Below.drew ?_ | refine Below.alloc ?_ (by first | omega | (simp; omega) | (simp; done) | (simp at *; omega)) _ | refine Below.setCell ?_ (by first | omega | (simp; omega) | (simp; done) | (simp at *; omega)) _ | refine Below.trans ?_ (Below.mono (by assumption) (by first | omega | (simp; omega) | (simp; done) | (simp at *; omega)))))⟩
  · obtain ⟨p1, p2, p3, p4, p5, p6, p7, p8⟩ := wpOk_parts hok
    have HOK := Lib.hid hok
    clear hok
    go_enter Try.func93, Try.ntmps93
    go_wp2_with fail
    refine (s_l07Can _ _ cs ds window _ HU.out.sl HV.out.sl).mono ?_; rintro e w1 ⟨rfl, n1, rfl⟩
    rw [HOK.out]
    go_wp2_with fail
    refine (s_l07Warp _ _ cs ds window _ (HU.out.drewN _) (HV.out.drewN _) p1 p2 p3 p4 p5 p6 p7).mono ?_; rintro e w2 ⟨⟨s, rfl, hs⟩, hb⟩
    have HS := Lib.hid hs
    have hb2 : Below w.heap.size w w2 := (below_drewN (Below.refl _ w) n1).trans hb
    obtain ⟨so, sc, rfl, -⟩ := hs.sb.sl.slice
    clear hs hb
    have HQ := Lib.hid (show costsQ szS geS cs ds window = given (wpC szS geS cs ds window) by rw [costsQ, HOK.out]; rfl)
    go_wp2_with fail
    refine (s_l02Finite _ _ _ HS.out.sb.sl).mono ?_; rintro e w3 ⟨rfl, n3, rfl⟩
    cases hp : allFin (wpC szS geS cs ds window)
    all_goals
      have HG := Lib.hid (fun (u : Value) (b : Bool) (hr : u = (if allFin (wpC szS geS cs ds window) then (.slice so (wpC szS geS cs ds window).length sc) else .slice none 0 0)) (hbb : b = allFin (wpC szS geS cs ds window)) => LB.given (OW.drewN (HS.out.down (base' := w.heap.size) (by simp)) n3) hr hbb HQ.out)
      rw [hp] at HG
      go_wp2_with fail
      go_ret2
      exact ⟨HG.out _ _ rfl rfl, below_drewN hb2 n3⟩
/-- The way ahead of two places. -/
def wPre (ge : Nat → Bool) (C : List Nat) (wide n : Nat) (i k : Int) : List Int := match wThree ge C wide i k 3 with
  | none => []
  | some b => wBack ge C wide n (candI b.1 i) (candK b.1 k)
theorem wBack_pre (ge : Nat → Bool) (C : List Nat) (wide n : Nat) (i k : Int) : wBack ge C wide (n + 1) i k = wPre ge C wide n i k ++ [i, k] := rfl
theorem wPre_some {ge : Nat → Bool} {C : List Nat} {wide n : Nat} {i k : Int} {b : Nat × Nat} (h : wThree ge C wide i k 3 = some b) : wPre ge C wide n i k = wBack ge C wide n (candI b.1 i) (candK b.1 k) := by
  unfold wPre; rw [h]
theorem wPre_none {ge : Nat → Bool} {C : List Nat} {wide n : Nat} {i k : Int} (h : wThree ge C wide i k 3 = none) : wPre ge C wide n i k = [] := by
  unfold wPre; rw [h]
theorem GO.row {α : Type} {inj : α → Value} {T lo : Nat} {w : World} {v : Value} {xs : List α} (h : GO inj T lo w v xs) (h0 : 0 < xs.length) :
    ∃ g cap, v = .slice (some ⟨g, 0, none⟩) xs.length cap ∧ lo ≤ g ∧ g < w.heap.size ∧ ∀ i u, xs[i]? = some u → w.cell? ⟨g, i, none⟩ = some (inj u) := by
  obtain ⟨g, cap, rfl, h1, h2, -⟩ := h.at_ h0
  refine ⟨g, cap, rfl, h1, h2, fun i u hu => ?_⟩
  obtain ⟨hi, rfl⟩ := List.getElem?_eq_some_iff.1 hu
  obtain ⟨g', cap', hv, -, -, hc, -⟩ := h.at_ hi
  simp only [Value.slice.injEq, Option.some.injEq, Addr.mk.injEq, and_true] at hv
  obtain ⟨rfl, -⟩ := hv
  exact hc
theorem World.cell?_alloc_past2 {w : World} {o : Obj} {g i : Nat} (h : g < w.heap.size) : (w.alloc o).cell? ⟨g, i, none⟩ = w.cell? ⟨g, i, none⟩ :=
  ((Below.refl w.heap.size w).alloc (Nat.le_refl _) o).cell (p := ⟨g, i, none⟩) h

theorem s_WarpWay (u v : Value) (cs ds : List Nat) (window : Int) (w : World) (hu : SB w u cs) (hv : SB w v ds) :
    Calls Try.prog 40 #[u, v, .int .i64 window] w fun z w' => IB 2 w.heap.size w' z (wayQ szS geS cs ds window) ∧ Below w.heap.size w w' := by
  have HU := Lib.hid hu
  have HV := Lib.hid hv
  cases hok : (costsQ szS geS cs ds window).2
  · have HOK := Lib.hid hok
    have HNO := Lib.hid (show wayQ szS geS cs ds window = ([], false) by rw [wayQ, yes_none hok]; rfl)
    clear hok hu hv
    go_enter Try.func40, Try.ntmps40
    go_wp2_with fail
    refine (s_WarpCosts _ _ cs ds window _ HU.out HV.out).mono ?_; rintro e w1 ⟨⟨s, b, rfl, hs, hb⟩, hbl⟩
    rw [HOK.out] at hb
    subst hb
    go_wp2_with fail
    go_ret2
    exact ⟨IB.no _ _ _ HNO.out, hbl⟩
  · obtain ⟨hko, hka, hkl⟩ := costs_some hok
    obtain ⟨p1, p2, p3, p4, p5, p6, p7, p8⟩ := wpOk_parts hko
    have HOK := Lib.hid hok
    have HKL := Lib.hid hkl
    have HYE := Lib.hid (show wpYes szS geS cs ds window = !fc .lss .f32 ((wpC szS geS cs ds window).getD (cs.length * ds.length - 1) 0) 0 by rw [wpYes, hko, hka]; rfl)
    have HRE := Lib.hid (fun (i k : Nat) (hi : i < cs.length) (hk : k < ds.length) (h0 : i + k ≠ 0) (h : geS ((wpC szS geS cs ds window).getD (i * ds.length + k) 0) = true) => wThree_reached (sz := szS) (ge := geS) neg1_ge.2 (window := window) hi hk h0 h)
    obtain ⟨ao, ac, rfl, -, -⟩ := hu.sl.slice2
    obtain ⟨bo, bc, rfl, -, -⟩ := hv.sl.slice2
    clear hok hkl hko hka p1 p2 p7 p8 hu hv
    have hNN : cs.length * ds.length ≤ 96 * 96 := Nat.mul_le_mul p4 p6
    have hlast := last_lt p3 p5
    have hle : (cs.length - 1) * ds.length + (ds.length - 1) = cs.length * ds.length - 1 := by
      obtain ⟨n, hn⟩ : ∃ n, cs.length = n + 1 := ⟨cs.length - 1, by omega⟩
      rw [hn, Nat.add_sub_cancel, Nat.add_mul]; omega
    have HCL := Lib.hid (wpC_length szS geS cs ds window)
    have HWQ := Lib.hid (show wayQ szS geS cs ds window = if wpYes szS geS cs ds window then (wBack geS (wpC szS geS cs ds window) ds.length (cs.length + ds.length) ((cs.length : Int) - 1) ((ds.length : Int) - 1), true) else ([], false) from rfl)
    obtain ⟨C, hC⟩ : ∃ C, C = wpC szS geS cs ds window := ⟨_, rfl⟩
    rw [← hC] at HKL HYE HRE HCL HWQ
    clear hC
    have hw1 : IntKind.i64.wrap ((cs.length : Int) - 1) = (cs.length : Int) - 1 := by rw [IntKind.wrap_i64]; omega
    have hw2 : IntKind.i64.wrap ((ds.length : Int) - 1) = (ds.length : Int) - 1 := by rw [IntKind.wrap_i64]; omega
    obtain ⟨NN, hN⟩ : ∃ NN, NN = cs.length * ds.length := ⟨_, rfl⟩
    rw [← hN] at HYE HCL hNN hlast hle
    have HN := Lib.hid hN
    clear hN
    cases hl : fc .lss .f32 (C.getD (NN - 1) 0) 0
    all_goals
      have HL := Lib.hid hl
      rw [hl] at HYE
      clear hl
      go_enter Try.func40, Try.ntmps40
      go_wp2_with fail
      refine (s_WarpCosts _ _ cs ds window _ HU.out HV.out).mono ?_; rintro e w1 ⟨⟨s, b, rfl, hs, hb⟩, hbl⟩
      rw [HOK.out] at hb
      subst hb
      rw [HKL.out] at hs
      have HS := Lib.hid hs
      obtain ⟨so, sc, rfl, -, -, hget⟩ := hs.sb.get HCL.out
      obtain ⟨bb, oo, r, rfl, hbl1, hcell, hr, hcr⟩ := hget (NN - 1) hlast
      have hoL := order_of_lssW (x := r) (y := 0) ((show fc .lss .f32 (cn .f32 r) (cn .f32 0) = fc .lss .f32 (C.getD (NN - 1) 0) 0 by rw [hcr, cn0]).trans HL.out)
      have hz1 : (NN : Int) - 1 = ((NN - 1 : Nat) : Int) := by omega
      have hw5 : IntKind.i64.wrap ((NN : Int) - 1) = ((NN - 1 : Nat) : Int) := by rw [IntKind.wrap_i64]; omega
      have HBL := Lib.hid hbl
      have hzb := hbl.size
      clear hs hget hcr hbl
      have hzi : ((NN - 1 : Nat) : Int) < (NN : Int) := by omega
      have hz0 : 0 ≤ ((NN - 1 : Nat) : Int) := by omega
      have hzn : (((NN - 1 : Nat) : Int)).toNat = NN - 1 := by omega
      generalize hn1 : NN - 1 = n1 at *
      go_wp2_with fail
    · obtain ⟨W, hW⟩ : ∃ W, W = wBack geS C ds.length (cs.length + ds.length) ((cs.length : Int) - 1) ((ds.length : Int) - 1) := ⟨_, rfl⟩
      have HWR := Lib.hid (show wayQ szS geS cs ds window = (W, true) by rw [HWQ.out, HYE.out, hW]; rfl)
      have HW0 := Lib.hid (show W = wPre geS C ds.length (cs.length - 1 + (ds.length - 1)) ((cs.length - 1 : Nat) : Int) ((ds.length - 1 : Nat) : Int) ++ [((cs.length - 1 : Nat) : Int), ((ds.length - 1 : Nat) : Int)] by
        rw [hW, ← wBack_pre, show (cs.length : Int) - 1 = ((cs.length - 1 : Nat) : Int) by omega, show (ds.length : Int) - 1 = ((ds.length - 1 : Nat) : Int) by omega]
        exact wBack_more geS neg1_ge.2 C ds.length _ _ _ _ (by omega) (by omega) (by omega) (by omega))
      have HR0 := Lib.hid (show geS (C.getD ((cs.length - 1) * ds.length + (ds.length - 1)) 0) = true by rw [hle]; unfold geS; rw [HL.out]; rfl)
      clear hW HYE HWQ HL HKL hcell hoL hle hn1
      go_loopw [10, 11, 12] (fun i k o wr => ∃ (a b : Nat) (O : List Int), a < cs.length ∧ b < ds.length ∧ i = .int .i64 (a : Int) ∧ k = .int .i64 (b : Int) ∧ Hid (GO (Value.int .i64) 2 w1.heap.size wr o O) ∧ Hid (W = wPre geS C ds.length (a + b) a b ++ O) ∧ Hid (geS (C.getD (a * ds.length + b) 0) = true) ∧ Hid (O.length + 2 * (a + b) ≤ 400 ∧ 0 < O.length) ∧ Below w1.heap.size w1 wr) (fun i k _ _ => (intOf i).toNat + (intOf k).toNat)
      case atStart => exact ⟨cs.length - 1, ds.length - 1, _, by omega, by omega, by congr 1; omega, by congr 1; omega, Lib.hid (by have := GO.two w1 ((cs.length : Int) - 1) ((ds.length : Int) - 1) 2 (Nat.le_refl _); exact this), by rw [show (cs.length : Int) - 1 = ((cs.length - 1 : Nat) : Int) by omega, show (ds.length : Int) - 1 = ((ds.length - 1 : Nat) : Int) by omega]; exact HW0, HR0, Lib.hid (by simp; omega), by (repeat (first | with_reducible exact Below.refl _ _ | with_reducible assumption | with_reducible refine below_drewN ?_ _ | with_reducible refine Below.drew ?_ | with_reducible refine Below.alloc ?_ (by first | omega | (simp; omega) | (simp; done) | (simp at *; omega)) _ | with_reducible refine Below.setCell ?_ (by first | omega | (simp; omega) | (simp; done) | (simp at *; omega)) _ | refine Below.trans ?_ (Below.mono (by with_reducible assumption) (by first | omega | (simp; omega) | (simp; done) | (simp at *; omega)))))⟩
      case round =>
        clear HW0 HR0
        obtain ⟨a, b, O, ha, hbb, rfl, rfl, HO, HW, HRR, HL, hb⟩ := hrel
        have hz := hb.size
        have hwa : IntKind.i64.wrap ((a : Int) - 1) = (a : Int) - 1 := by rw [IntKind.wrap_i64]; omega
        have hwb : IntKind.i64.wrap ((b : Int) - 1) = (b : Int) - 1 := by rw [IntKind.wrap_i64]; omega
        by_cases h0 : a + b = 0
        · have ha0 : ¬ (0 < (a : Int)) := by omega
          have hb0 : ¬ (0 < (b : Int)) := by omega
          have HWX := Lib.hid (show W = O by
            have h1 := HW.out
            rw [show a = 0 by omega, show b = 0 by omega] at h1
            rw [h1]
            show wPre geS C ds.length (0 + 0) 0 0 ++ O = O
            rw [wPre_none (wThree_origin geS neg1_ge.2 C ds.length)]
            rfl)
          have HO2 := Lib.hid (show GO (Value.int .i64) 2 w.heap.size wr _ W by rw [HWX.out]; exact HO.out.down hzb)
          clear HWX HW HRR HO
          go_wp2_with fail
          go_ret2
          exact ⟨⟨_, _, rfl, by rw [HWR.out]; exact HO2.out, by rw [HWR.out]⟩, HBL.out.trans (hb.mono hzb)⟩
        · obtain ⟨q, hq⟩ := HRE.out a b ha hbb h0 HRR.out
          obtain ⟨q0, q7, q8⟩ := wThree_some hq
          obtain ⟨q1, q2, q3, q4, q5⟩ := wThree_place neg1_ge.2 hq
          obtain ⟨a2, ha2⟩ : ∃ a2 : Nat, candI q.1 (a : Int) = (a2 : Int) := ⟨(candI q.1 (a : Int)).toNat, by omega⟩
          obtain ⟨b2, hb2⟩ : ∃ b2 : Nat, candK q.1 (b : Int) = (b2 : Int) := ⟨(candK q.1 (b : Int)).toNat, by omega⟩
          have HWX := Lib.hid (show W = wPre geS C ds.length (a2 + b2) a2 b2 ++ ([(a2 : Int), (b2 : Int)] ++ O) by
            rw [HW.out, wPre_some hq, ha2, hb2, wBack_more geS neg1_ge.2 C ds.length (a + b) (a2 + b2 + 1) a2 b2 (by omega) (by omega) (by omega) (by omega), wBack_pre, List.append_assoc])
          have HRX := Lib.hid (show geS (C.getD (a2 * ds.length + b2) 0) = true by
            rw [q7, wAt, if_neg (by omega), ha2, hb2] at q8
            exact q8)
          have HLX := Lib.hid (show ([(a2 : Int), (b2 : Int)] ++ O).length + 2 * (a2 + b2) ≤ 400 ∧ 0 < ([(a2 : Int), (b2 : Int)] ++ O).length by have := HL.out; simp; omega)
          have HTH := Lib.hid (fun (w4 : World) (h : Below w1.heap.size w1 w4) => s_l07Three _ C ds.length a b w4 ((HS.out.keep h).sb) (by omega) hbb p6 (by
            rw [HCL.out, HN.out]
            have : (a + 1) * ds.length ≤ cs.length * ds.length := Nat.mul_le_mul_right _ ha
            rw [Nat.add_mul] at this
            omega))
          rw [hq] at HTH
          have ewb : wbW (some q) = (q.1 : Int) := rfl
          rw [ewb] at HTH
          obtain ⟨g, cap, hvO, hg1, hg2, hcO⟩ := HO.out.row HL.out.2
          have HCO := Lib.hid hcO
          have hs1 : a2 + b2 < a + b := by omega
          have hs2 : a2 < cs.length := by omega
          have hs3 : b2 < ds.length := by omega
          have hq3 : q.1 = 0 ∨ q.1 = 1 ∨ q.1 = 2 := by omega
          clear hq q7 q8 q1 q2 q3 q4 q5 ewb hcO HW HRR HCO
          subst hvO
          have hol : O.length ≤ 400 := by have := HL.out.1; omega
          have hor : (0 < (a : Int)) ∨ (¬ (0 < (a : Int)) ∧ 0 < (b : Int)) := by omega
          obtain ⟨ai, hai⟩ : ∃ ai : Int, ai = (a : Int) := ⟨_, rfl⟩
          obtain ⟨bi, hbi⟩ : ∃ bi : Int, bi = (b : Int) := ⟨_, rfl⟩
          have hms : (intOf (Value.int .i64 ai)).toNat + (intOf (Value.int .i64 bi)).toNat = a + b := by simp [intOf, hai, hbi]
          rw [← hai] at hor ha2 HTH hwa ⊢
          rw [← hbi] at hor hb2 HTH hwb ⊢
          have h0s : a + b ≠ 0 := h0
          clear hai hbi h0
          rcases hor with hab | ⟨hab, hab2⟩
          · rcases hq3 with e | e | e
            · rw [e] at HTH ha2 hb2
              have hA : ai - 1 = (a2 : Int) := ha2
              have hB : bi = (b2 : Int) := hb2
              clear ha2 hb2
              have HBB := Lib.hid hB
              clear hB
              go_wp2_with fail
              refine (HTH.out _ hb).mono ?_; rintro z w4 ⟨rfl, hd4⟩
              have HO4 := Lib.hid (HO.out.keep (hd4.below _))
              have hb4 : Below w1.heap.size w1 w4 := hb.trans (hd4.below _)
              have hz4 := hb4.size
              obtain ⟨g4, cap4, hv4, hg41, hg42, hcO⟩ := HO4.out.row HL.out.2
              simp only [Value.slice.injEq, Option.some.injEq, Addr.mk.injEq, and_true, true_and] at hv4
              obtain ⟨rfl, rfl⟩ := hv4
              have HCO := Lib.hid hcO
              clear hcO hd4 HO hb hz
              go_wp2_with (at_builtin; refine wpList_gappC (inj := Value.int .i64) oneI64W (fun _ => rfl) w1.heap.size _ [(a2 : Int), bi] rfl (GO.two w4 _ _ _ (by omega)) O _ _ _ rfl rfl (fun i u hu => by have h := HCO.out i u hu; rw [← h]; exact World.cell?_alloc_past2 hg42) (by simp only [List.length_cons, List.length_nil]; omega) (by simp; omega) ?_; intro v5 w5 hown hgg; have HO5 := Lib.hid hown; have hb5 : Below w1.heap.size w1 w5 := below_of_grown (by (repeat (first | with_reducible exact Below.refl _ _ | with_reducible assumption | with_reducible refine below_drewN ?_ _ | with_reducible refine Below.drew ?_ | with_reducible refine Below.alloc ?_ (by first | omega | (simp; omega) | (simp; done) | (simp at *; omega)) _ | with_reducible refine Below.setCell ?_ (by first | omega | (simp; omega) | (simp; done) | (simp at *; omega)) _ | refine Below.trans ?_ (Below.mono (by with_reducible assumption) (by first | omega | (simp; omega) | (simp; done) | (simp at *; omega)))))) hgg (by simp; omega) (fun k hk => by have hk' : some w4.heap.size = some k := hk; injection hk' with hk'; omega); clear hown hgg)
              rw [HBB.out] at HO5
              refine ⟨⟨a2, b2, _, hs2, hs3, rfl, by rw [HBB.out], HO5, HWX, HRX, HLX, hb5⟩, by rw [hms]; simp [intOf]; have := HBB.out; omega⟩
            · rw [e] at HTH ha2 hb2
              have hA : ai = (a2 : Int) := ha2
              have hB : bi - 1 = (b2 : Int) := hb2
              clear ha2 hb2
              have HA := Lib.hid hA
              clear hA
              go_wp2_with fail
              refine (HTH.out _ hb).mono ?_; rintro z w4 ⟨rfl, hd4⟩
              have HO4 := Lib.hid (HO.out.keep (hd4.below _))
              have hb4 : Below w1.heap.size w1 w4 := hb.trans (hd4.below _)
              have hz4 := hb4.size
              obtain ⟨g4, cap4, hv4, hg41, hg42, hcO⟩ := HO4.out.row HL.out.2
              simp only [Value.slice.injEq, Option.some.injEq, Addr.mk.injEq, and_true, true_and] at hv4
              obtain ⟨rfl, rfl⟩ := hv4
              have HCO := Lib.hid hcO
              clear hcO hd4 HO hb hz
              go_wp2_with (at_builtin; refine wpList_gappC (inj := Value.int .i64) oneI64W (fun _ => rfl) w1.heap.size _ [ai, (b2 : Int)] rfl (GO.two w4 _ _ _ (by omega)) O _ _ _ rfl rfl (fun i u hu => by have h := HCO.out i u hu; rw [← h]; exact World.cell?_alloc_past2 hg42) (by simp only [List.length_cons, List.length_nil]; omega) (by simp; omega) ?_; intro v5 w5 hown hgg; have HO5 := Lib.hid hown; have hb5 : Below w1.heap.size w1 w5 := below_of_grown (by (repeat (first | with_reducible exact Below.refl _ _ | with_reducible assumption | with_reducible refine below_drewN ?_ _ | with_reducible refine Below.drew ?_ | with_reducible refine Below.alloc ?_ (by first | omega | (simp; omega) | (simp; done) | (simp at *; omega)) _ | with_reducible refine Below.setCell ?_ (by first | omega | (simp; omega) | (simp; done) | (simp at *; omega)) _ | refine Below.trans ?_ (Below.mono (by with_reducible assumption) (by first | omega | (simp; omega) | (simp; done) | (simp at *; omega)))))) hgg (by simp; omega) (fun k hk => by have hk' : some w4.heap.size = some k := hk; injection hk' with hk'; omega); clear hown hgg)
              rw [HA.out] at HO5
              refine ⟨⟨a2, b2, _, hs2, hs3, by rw [HA.out], rfl, HO5, HWX, HRX, HLX, hb5⟩, by rw [hms]; simp [intOf]; have := HA.out; omega⟩
            · rw [e] at HTH ha2 hb2
              have hA : ai - 1 = (a2 : Int) := ha2
              have hB : bi - 1 = (b2 : Int) := hb2
              clear ha2 hb2
              go_wp2_with fail
              refine (HTH.out _ hb).mono ?_; rintro z w4 ⟨rfl, hd4⟩
              have HO4 := Lib.hid (HO.out.keep (hd4.below _))
              have hb4 : Below w1.heap.size w1 w4 := hb.trans (hd4.below _)
              have hz4 := hb4.size
              obtain ⟨g4, cap4, hv4, hg41, hg42, hcO⟩ := HO4.out.row HL.out.2
              simp only [Value.slice.injEq, Option.some.injEq, Addr.mk.injEq, and_true, true_and] at hv4
              obtain ⟨rfl, rfl⟩ := hv4
              have HCO := Lib.hid hcO
              clear hcO hd4 HO hb hz
              go_wp2_with (at_builtin; refine wpList_gappC (inj := Value.int .i64) oneI64W (fun _ => rfl) w1.heap.size _ [(a2 : Int), (b2 : Int)] rfl (GO.two w4 _ _ _ (by omega)) O _ _ _ rfl rfl (fun i u hu => by have h := HCO.out i u hu; rw [← h]; exact World.cell?_alloc_past2 hg42) (by simp only [List.length_cons, List.length_nil]; omega) (by simp; omega) ?_; intro v5 w5 hown hgg; have HO5 := Lib.hid hown; have hb5 : Below w1.heap.size w1 w5 := below_of_grown (by (repeat (first | with_reducible exact Below.refl _ _ | with_reducible assumption | with_reducible refine below_drewN ?_ _ | with_reducible refine Below.drew ?_ | with_reducible refine Below.alloc ?_ (by first | omega | (simp; omega) | (simp; done) | (simp at *; omega)) _ | with_reducible refine Below.setCell ?_ (by first | omega | (simp; omega) | (simp; done) | (simp at *; omega)) _ | refine Below.trans ?_ (Below.mono (by with_reducible assumption) (by first | omega | (simp; omega) | (simp; done) | (simp at *; omega)))))) hgg (by simp; omega) (fun k hk => by have hk' : some w4.heap.size = some k := hk; injection hk' with hk'; omega); clear hown hgg)
              refine ⟨⟨a2, b2, _, hs2, hs3, rfl, rfl, HO5, HWX, HRX, HLX, hb5⟩, by rw [hms]; simp [intOf]; omega⟩
          · rcases hq3 with e | e | e
            · rw [e] at HTH ha2 hb2
              have hA : ai - 1 = (a2 : Int) := ha2
              have hB : bi = (b2 : Int) := hb2
              clear ha2 hb2
              exfalso; omega
            · rw [e] at HTH ha2 hb2
              have hA : ai = (a2 : Int) := ha2
              have hB : bi - 1 = (b2 : Int) := hb2
              clear ha2 hb2
              have HA := Lib.hid hA
              clear hA
              go_wp2_with fail
              refine (HTH.out _ hb).mono ?_; rintro z w4 ⟨rfl, hd4⟩
              have HO4 := Lib.hid (HO.out.keep (hd4.below _))
              have hb4 : Below w1.heap.size w1 w4 := hb.trans (hd4.below _)
              have hz4 := hb4.size
              obtain ⟨g4, cap4, hv4, hg41, hg42, hcO⟩ := HO4.out.row HL.out.2
              simp only [Value.slice.injEq, Option.some.injEq, Addr.mk.injEq, and_true, true_and] at hv4
              obtain ⟨rfl, rfl⟩ := hv4
              have HCO := Lib.hid hcO
              clear hcO hd4 HO hb hz
              go_wp2_with (at_builtin; refine wpList_gappC (inj := Value.int .i64) oneI64W (fun _ => rfl) w1.heap.size _ [ai, (b2 : Int)] rfl (GO.two w4 _ _ _ (by omega)) O _ _ _ rfl rfl (fun i u hu => by have h := HCO.out i u hu; rw [← h]; exact World.cell?_alloc_past2 hg42) (by simp only [List.length_cons, List.length_nil]; omega) (by simp; omega) ?_; intro v5 w5 hown hgg; have HO5 := Lib.hid hown; have hb5 : Below w1.heap.size w1 w5 := below_of_grown (by (repeat (first | with_reducible exact Below.refl _ _ | with_reducible assumption | with_reducible refine below_drewN ?_ _ | with_reducible refine Below.drew ?_ | with_reducible refine Below.alloc ?_ (by first | omega | (simp; omega) | (simp; done) | (simp at *; omega)) _ | with_reducible refine Below.setCell ?_ (by first | omega | (simp; omega) | (simp; done) | (simp at *; omega)) _ | refine Below.trans ?_ (Below.mono (by with_reducible assumption) (by first | omega | (simp; omega) | (simp; done) | (simp at *; omega)))))) hgg (by simp; omega) (fun k hk => by have hk' : some w4.heap.size = some k := hk; injection hk' with hk'; omega); clear hown hgg)
              rw [HA.out] at HO5
              refine ⟨⟨a2, b2, _, hs2, hs3, by rw [HA.out], rfl, HO5, HWX, HRX, HLX, hb5⟩, by rw [hms]; simp [intOf]; have := HA.out; omega⟩
            · rw [e] at HTH ha2 hb2
              have hA : ai - 1 = (a2 : Int) := ha2
              have hB : bi - 1 = (b2 : Int) := hb2
              clear ha2 hb2
              exfalso; omega
    · go_ret2
      exact ⟨IB.no _ _ _ (by rw [HWQ.out, HYE.out]; rfl), HBL.out⟩
theorem s_WarpWayB (u v : Value) (cs ds : List Nat) (window : Int) (w : World) (hu : SB w u cs) (hv : SB w v ds) :
    Calls Try.prog 40 #[u, v, .int .i64 window] w fun z w' => IB 2 w.heap.size w' z (wayQ szI geI cs ds window) ∧ Below w.heap.size w w' := by
  have h := s_WarpWay u v cs ds window w hu hv
  rw [wayQ_same] at h
  exact h

end Go.Proofs.Ytnhenklopigfnaa
