/- Contracts: cuts, and signs of parts. -/
import Derived.Test.YtkkomajokdlkeaaQ8
import Derived.Test.YtkkomajokdlkeaaQ10
import Derived.Test.YtkkomajokdlkeaaQ16
namespace Go.Proofs.Ytkkomajokdlkeaa
set_option linter.unusedSimpArgs false
set_option linter.unusedVariables false
set_option maxRecDepth 100000
set_option maxHeartbeats 4000000
open Go.RowKit
attribute [local go_sem] run_store_float run_store_complex alloc_drewN setCell_drewN

theorem fin_not_nan {c : Nat} (h : fin c = true) : (S.read c).isNaN = false := by
  cases hn : (S.read c).isNaN with
  | false => rfl
  | true =>
    exfalso
    have e : ar .sub .f32 c c = qnan .f32 := by unfold ar; rw [floatBits_nan_l (k := .f32) hn]; rfl
    unfold fin at h
    rw [e] at h
    have : fc .eql .f32 (qnan .f32) 0 = false := by decide +kernel
    rw [this] at h; cases h
theorem allFin_get {cs : List Nat} (h : allFin cs = true) {i : Nat} (hi : i < cs.length) : fin (cs.getD i 0) = true := by
  unfold allFin at h
  rw [List.all_eq_true] at h
  have e : cs.getD i 0 = cs[i] := by simp [hi]
  rw [e]; exact h _ (List.getElem_mem hi)
def downAt (cs : List Nat) (i : Nat) : Bool := fc .lss .f32 (cs.getD i 0) (cs.getD (i - 1) 0)
def isNanB (c : Nat) : Bool := (S.read c).isNaN
def cless (a b : Nat) : Bool := (isNanB a && !isNanB b) || fc .lss .f32 a b
def sortedB (f : Nat → Bool) (n : Nat) : Bool := (List.range n).all fun i => i == 0 || !f i
theorem sorted_yes {f : Nat → Bool} {n : Nat} (h : ∀ i, 0 < i → i < n → f i = false) : sortedB f n = true := by
  unfold sortedB
  rw [List.all_eq_true]
  intro i hi
  have hi' := List.mem_range.1 hi
  by_cases h0 : i = 0
  · subst h0; rfl
  · simp [h i (by omega) hi']
theorem sorted_no {f : Nat → Bool} {n i : Nat} (h0 : 0 < i) (hi : i < n) (h : f i = true) : sortedB f n = false := by
  unfold sortedB
  rw [List.all_eq_false]
  exact ⟨i, List.mem_range.2 hi, by simp [h]; omega⟩
def cutsOk (cs : List Nat) : Bool := decide (cs.length ≤ 16) && allFin cs && sortedB (downAt cs) cs.length
theorem sorted_cless {cs : List Nat} (h : allFin cs = true) : sortedB (fun i => cless (cs.getD i 0) (cs.getD (i - 1) 0)) cs.length = sortedB (downAt cs) cs.length := by
  unfold sortedB
  rw [Bool.eq_iff_iff, List.all_eq_true, List.all_eq_true]
  have key : ∀ i, i < cs.length → cless (cs.getD i 0) (cs.getD (i - 1) 0) = downAt cs i := by
    intro i hi
    unfold cless isNanB downAt
    rw [fin_not_nan (allFin_get h hi)]
    rfl
  constructor
  · intro H i hi
    have h1 := H i hi
    dsimp only at h1
    rw [key i (List.mem_range.1 hi)] at h1
    exact h1
  · intro H i hi
    dsimp only
    rw [key i (List.mem_range.1 hi)]
    exact H i hi
def sortB (cs : List Nat) : Bool := sortedB (fun i => cless (cs.getD i 0) (cs.getD (i - 1) 0)) cs.length
theorem order_of_fc {x y : Nat} {b : Bool} (h : fc .lss .f32 (cn .f32 x) (cn .f32 y) = b) : (FloatKind.f32.format.order x y == some .lt) = b := by
  rw [← h]
  show _ = (FloatKind.f32.format.order _ _ == some .lt)
  rw [order_cn]
theorem order_of_leq {x y : Nat} {b : Bool} (h : fc .leq .f32 (cn .f32 x) (cn .f32 y) = b) : (FloatKind.f32.format.order x y == some .lt || FloatKind.f32.format.order x y == some .eq) = b := by
  rw [← h]
  show _ = (FloatKind.f32.format.order _ _ == some .lt || FloatKind.f32.format.order _ _ == some .eq)
  rw [order_cn]
def cnt (cuts : List Nat) (m : Nat) : Nat → Nat
  | 0 => 0
  | k + 1 => cnt cuts m k + (if fc .leq .f32 (cuts.getD k 0) m then 1 else 0)
theorem cnt_le (cuts : List Nat) (m k : Nat) : cnt cuts m k ≤ k := by
  induction k with
  | zero => exact Nat.le_refl _
  | succ k ih =>
    show _ + _ ≤ _
    split <;> omega
def cntL (ms cuts : List Nat) (n : Nat) : List Int := (List.range n).map fun i => (cnt cuts (ms.getD i 0) cuts.length : Int)
theorem cntL_length (ms cuts : List Nat) (n : Nat) : (cntL ms cuts n).length = n := by simp [cntL]
theorem cntL_succ (ms cuts : List Nat) (n : Nat) : cntL ms cuts (n + 1) = cntL ms cuts n ++ [(cnt cuts (ms.getD n 0) cuts.length : Int)] := by simp [cntL, List.range_succ]
def signsQ (cs : List Nat) (p : Int) (cuts : List Nat) : List Int × Bool :=
  if (partsQ cs p).2 && cutsOk cuts then (cntL (partsQ cs p).1 cuts (partsQ cs p).1.length, true) else ([], false)
theorem partsQ_len2 (cs : List Nat) (p : Int) : (partsQ cs p).1.length ≤ 96 := by
  unfold partsQ
  split
  · rename_i h
    simp only [Bool.and_eq_true, inB, decide_eq_true_eq] at h
    have := series_len h.1
    unfold given
    dsimp only
    split
    · rw [pmL_length]; omega
    · simp
  · simp
theorem signsQ_short (cs : List Nat) (p : Int) (cuts : List Nat) : (signsQ cs p cuts).1.length < 1000000 := by
  unfold signsQ
  have := partsQ_len2 cs p
  split
  · rw [cntL_length]; omega
  · simp
/-- A slice of integers of the call's own and a bool are returned. -/
def IB (T base : Nat) (w : World) (e : Ending) (q : List Int × Bool) : Prop := ∃ v b, e = .returned (.tuple #[v, .bool b]) ∧ GO (Value.int .i64) T base w v q.1 ∧ b = q.2
theorem IB.no (T base : Nat) (w : World) {q : List Int × Bool} (hq : q = ([], false)) : IB T base w (.returned (.tuple #[.slice none 0 0, .bool false])) q := by
  subst hq; exact ⟨_, _, rfl, GO.nil T base w, rfl⟩


theorem f_isNaN32 (x : Nat) (w : World) : Calls Try.prog 155 #[.float .f32 x] w fun e w' => e = .returned (.bool (isNanB (cn .f32 x))) ∧ Dr w w' := by
  have h := fc_neq_self .f32 (cn .f32 x)
  have H := Lib.hid h
  clear h
  go_enter Try.func155, Try.ntmps155
  go_wp2_with (first | (refine wpList_fc .f32 _ _ rfl rfl rfl ?_; rw [H.out]))
  go_ret
  exact ⟨rfl, Dr.refl _⟩

theorem f_Less32 (x y : Nat) (w : World) : Calls Try.prog 144 #[.float .f32 x, .float .f32 y] w fun e w' => e = .returned (.bool (cless (cn .f32 x) (cn .f32 y))) ∧ Dr w w' := by
  cases h1 : isNanB (cn .f32 x)
  all_goals
    cases h2 : isNanB (cn .f32 y)
    all_goals
      have H1 := Lib.hid h1
      have H2 := Lib.hid h2
      clear h1 h2
      go_enter Try.func144, Try.ntmps144
      go_wp2_with (first
        | (go_at_call_of 155 (Value.float .f32 x); refine (f_isNaN32 x _).mono ?_; rintro e w1 ⟨rfl, n1, rfl⟩; rw [H1.out])
        | (go_at_call_of 155 (Value.float .f32 y); refine (f_isNaN32 y _).mono ?_; rintro e w2 ⟨rfl, n2, rfl⟩; rw [H2.out])
        | (refine wpList_fc .f32 _ _ rfl rfl rfl ?_) | (refine wpList_fc_g rfl .f32 _ _ rfl rfl rfl ?_))
      all_goals
        go_ret
        refine ⟨ret_bool ?_, by first | exact Dr.refl _ | exact Dr.mk _ _⟩
        simp [cless, H1.out, H2.out]

theorem f_IsSorted32 (v : Value) (cs : List Nat) (w : World) (hv : SB w v cs) (hn : cs.length ≤ 1000) :
    Calls Try.prog 123 #[v] w fun e w' => e = .returned (.bool (sortB cs)) ∧ Dr w w' := by
  obtain ⟨ao, c, hv', hc1, hc2, hget⟩ := hv.get rfl
  by_cases h0 : cs.length = 0
  · have hr : sortB cs = true := by unfold sortB; rw [h0]; rfl
    rw [h0] at hv'
    subst hv'
    have HR := Lib.hid hr
    clear hget hr h0 hc1 hn
    go_enter Try.func123, Try.ntmps123
    go_wp2_with fail
    go_loopw [3] (fun i wr => i = .int .i64 (-1) ∧ ∃ d, wr = w.drewN d) (fun i _ => 0)
    case atStart => exact ⟨rfl, 0, rfl⟩
    case round =>
      obtain ⟨rfl, d, rfl⟩ := hrel
      go_wp2_with fail
      go_ret
      exact ⟨ret_bool HR.out.symm, _, rfl⟩
  · obtain ⟨m, hm⟩ : ∃ m, cs.length = m + 1 := ⟨cs.length - 1, by omega⟩
    rw [hm] at hv' hc1 hget hn
    subst hv'
    have HG := Lib.hid hget
    have HM := Lib.hid hm
    clear hget hm h0 hv
    go_enter Try.func123, Try.ntmps123
    go_wp2_with fail
    go_loopw [3] (fun i wr => ∃ k : Nat, k ≤ m ∧ i = .int .i64 (k : Int) ∧ Hid (∀ j, k < j → j < m + 1 → cless (cs.getD j 0) (cs.getD (j - 1) 0) = false) ∧ ∃ d, wr = w.drewN d) (fun i _ => (intOf i).toNat)
    case atStart => exact ⟨m, Nat.le_refl _, by first | rfl | (congr 1; omega), (by intro j h1 h2; omega), 0, rfl⟩
    case round =>
      obtain ⟨k, hk, rfl, HJ, d, rfl⟩ := hrel
      rcases k with _ | k
      · go_wp2_with fail
        go_ret
        exact ⟨ret_bool (by unfold sortB; rw [HM.out]; exact (sorted_yes (fun i h1 h2 => HJ.out i h1 h2)).symm), _, rfl⟩
      · obtain ⟨b, off, x, rfl, hbl, hc, hx, hcx⟩ := HG.out (k + 1) (by omega)
        obtain ⟨b', off', y, e', hbl', hc', hy, hcy⟩ := HG.out k (by omega)
        simp only [Option.some.injEq, Addr.mk.injEq, and_true] at e'
        obtain ⟨rfl, rfl⟩ := e'
        have HX := Lib.hid hcx
        have HY := Lib.hid hcy
        clear hcx hcy
        have hk2 : (k : Int) < (m : Int) + 1 := by omega
        have hk3 : (k : Int) + 1 < (m : Int) + 1 := by omega
        cases hl : cless (cn .f32 x) (cn .f32 y)
        all_goals
          have HL := Lib.hid hl
          clear hl
          have hq : ∀ (wx : World), Calls Try.prog 144 #[.float .f32 x, .float .f32 y] wx fun e w'' => e = .returned (.bool (cless (cn .f32 x) (cn .f32 y))) ∧ Dr wx w'' := fun wx => f_Less32 x y _
          rw [HL.out] at hq
          have HQ := Lib.hid hq
          clear hq
          have hk4 : k < m := by omega
          have hw1 := wrap_in (n := (k : Int)) (by omega) (by omega)
          have hw2 := wrap_in (n := (k : Int) + 1) (by omega) (by omega)
          have ht : ((k : Int) + 1).toNat = k + 1 := by omega
          have hp : (0 : Int) ≤ (k : Int) + 1 := by omega
          simp only [Int.natCast_add, Int.natCast_one]
          go_wp2_with fail
          go_quiet ((go_at_call 144; first | exact quiet_dr (HQ.out _) | exact quiet_dr2 (HQ.out _)))
          clear hw1 hw2 ht
          go_wp2_with fail
        · refine ⟨⟨k, by omega, by first | rfl | go_num, ?_, by first | exact ⟨_, rfl⟩ | exact ⟨_, (World.drewN_drewN ..).symm⟩⟩, by first | (simp [intOf]; done) | (simp [intOf]; omega)⟩
          intro j h1 h2
          rcases Nat.lt_or_ge (k + 1) j with h | h
          · exact HJ.out j h h2
          · obtain rfl : j = k + 1 := by omega
            rw [← HX.out, Nat.add_sub_cancel, ← HY.out]; exact HL.out
        · go_ret
          refine ⟨ret_bool ?_, by first | exact ⟨_, rfl⟩ | exact ⟨_, (World.drewN_drewN ..).symm⟩⟩
          unfold sortB
          rw [HM.out]
          refine (sorted_no (i := k + 1) (by omega) (by omega) ?_).symm
          show cless _ _ = true
          rw [← HX.out, Nat.add_sub_cancel, ← HY.out]; exact HL.out

theorem i_areCuts (v : Value) (cs : List Nat) (w : World) (hv : SB w v cs) : Calls Try.prog 71 #[v] w fun e w' => e = .returned (.bool (cutsOk cs)) ∧ Dr w w' := by
  have HV := Lib.hid hv
  obtain ⟨ao, c, rfl, hlen⟩ := hv.sl.slice
  clear hv
  by_cases h1 : cs.length ≤ 16
  · cases h2 : allFin cs
    all_goals
      have H2 := Lib.hid h2
      clear h2
      have h3 : (cs.length : Int) ≤ 16 := by omega
      go_enter Try.func71, Try.ntmps71
      go_wp2_with (first
        | (go_at_call 81; refine (i_areFinite _ cs _ HV.out.sl).mono ?_; rintro e w1 ⟨rfl, n1, rfl⟩; rw [H2.out])
        | (go_at_call 123; refine (f_IsSorted32 _ cs _ (HV.out.drewN _) (by omega)).mono ?_; rintro e w2 ⟨rfl, n2, rfl⟩))
      go_ret
      refine ⟨ret_bool ?_, Dr.mk _ _⟩
    · simp [cutsOk, H2.out]
    · unfold sortB; rw [sorted_cless H2.out]; simp [cutsOk, H2.out, h1]
  · have h3 : ¬ (cs.length : Int) ≤ 16 := by omega
    go_enter Try.func71, Try.ntmps71
    go_wp2_with fail
    go_ret
    exact ⟨ret_bool (by simp [cutsOk, h1]), Dr.refl _⟩

theorem one64S : OneC Try.prog 28 2 (.int .i64 0) 8 := oneC_of Try.underlying28 (by kernel_rfl) rfl (by decide)

theorem i_SignsOf (u v : Value) (cs : List Nat) (p : Int) (cuts : List Nat) (w : World) (hu : SB w u cs) (hv : SB w v cuts) (hn : cuts.length ≤ 1048576) :
    Calls Try.prog 20 #[u, .int .i64 p, v] w fun z w' => IB 2 w.heap.size w' z (signsQ cs p cuts) ∧ Below w.heap.size w w' := by
  have HU := Lib.hid hu
  have HV := Lib.hid hv
  cases hq : (partsQ cs p).2
  · have HQ := Lib.hid hq
    clear hu hv hq
    go_enter Try.func20, Try.ntmps20
    go_wp2_with (first
      | (go_at_call 22; refine (i_PartMeans _ cs p _ HU.out.sl).mono ?_; rintro z w1 ⟨⟨v1, b1, rfl, ho1, hb1⟩, hbl1⟩; rw [HQ.out] at hb1; subst hb1; have HO1 := Lib.hid ho1; clear ho1)
      | (go_at_call 71; refine (i_areCuts _ cuts _ (HV.out.keep hbl1)).mono ?_; rintro e w2 ⟨rfl, n2, rfl⟩))
    go_ret2
    exact ⟨IB.no _ _ _ (by rw [signsQ, HQ.out]; rfl), by (repeat (first | exact Below.refl _ _ | assumption | refine below_drewN ?_ _ | refine Below.drew ?_ | refine Below.alloc ?_ (by first | omega | (simp; omega) | (simp; done) | (simp at *; omega)) _ | refine Below.setCell ?_ (by first | omega | (simp; omega) | (simp; done) | (simp at *; omega)) _ | refine Below.trans ?_ (Below.mono (by assumption) (by first | omega | (simp; omega) | (simp; done) | (simp at *; omega)))))⟩
  · cases hc : cutsOk cuts
    all_goals
      have HQ := Lib.hid hq
      have HC := Lib.hid hc
      clear hc hq
    · clear hu hv
      go_enter Try.func20, Try.ntmps20
      go_wp2_with (first
        | (go_at_call 22; refine (i_PartMeans _ cs p _ HU.out.sl).mono ?_; rintro z w1 ⟨⟨v1, b1, rfl, ho1, hb1⟩, hbl1⟩; rw [HQ.out] at hb1; subst hb1; have HO1 := Lib.hid ho1; clear ho1)
        | (go_at_call 71; refine (i_areCuts _ cuts _ (HV.out.keep hbl1)).mono ?_; rintro e w2 ⟨rfl, n2, rfl⟩; rw [HC.out]))
      go_ret2
      exact ⟨IB.no _ _ _ (by rw [signsQ, HQ.out, HC.out]; rfl), by (repeat (first | exact Below.refl _ _ | assumption | refine below_drewN ?_ _ | refine Below.drew ?_ | refine Below.alloc ?_ (by first | omega | (simp; omega) | (simp; done) | (simp at *; omega)) _ | refine Below.setCell ?_ (by first | omega | (simp; omega) | (simp; done) | (simp at *; omega)) _ | refine Below.trans ?_ (Below.mono (by assumption) (by first | omega | (simp; omega) | (simp; done) | (simp at *; omega)))))⟩
    · obtain ⟨av, cv, rfl, hv1, hv2, hgv⟩ := hv.get rfl
      have HGV := Lib.hid hgv
      have HN := Lib.hid (partsQ_len2 cs p)
      have HSQ := Lib.hid (show signsQ cs p cuts = (cntL (partsQ cs p).1 cuts (partsQ cs p).1.length, true) by rw [signsQ, HQ.out, HC.out]; rfl)
      rw [HSQ.out]
      clear hgv hu hv HSQ
      generalize hms : (partsQ cs p).1 = ms
      have HMS := Lib.hid hms
      have hml : ms.length ≤ 96 := by rw [← hms]; exact HN.out
      clear hms HN
      go_enter Try.func20, Try.ntmps20
      go_wp2_with (first
        | (go_at_call 22; refine (i_PartMeans _ cs p _ HU.out.sl).mono ?_; rintro z w1 ⟨⟨v1, b1, rfl, ho1, hb1⟩, hbl1⟩; rw [HQ.out] at hb1; rw [HMS.out] at ho1; subst hb1; obtain ⟨a1, c1, rfl, d1, d2, hg1⟩ := ho1.sb.get rfl; have HO1 := Lib.hid ho1; have HG1 := Lib.hid hg1; have hz1 := hbl1.size; clear ho1 hg1)
        | (go_at_call 71; refine (i_areCuts _ cuts _ (HV.out.keep hbl1)).mono ?_; rintro e w2 ⟨rfl, n2, rfl⟩; rw [HC.out]))
      go_loopw [10, 32] (fun v i wr => ∃ k : Nat, k ≤ ms.length ∧ i = .int .i64 (k : Int) ∧ Hid (GO (Value.int .i64) 2 w1.heap.size wr v (cntL ms cuts k)) ∧ Below w1.heap.size w1 wr) (fun _ i _ => ms.length - (intOf i).toNat)
      case atStart => exact ⟨0, Nat.zero_le _, rfl, (by show GO _ _ _ _ _ _; first | exact GO.empty _ _ rfl (Nat.le_refl _) | exact GO.drewN (GO.empty _ _ rfl (Nat.le_refl _)) _), by (repeat (first | exact Below.refl _ _ | assumption | refine below_drewN ?_ _ | refine Below.drew ?_ | refine Below.alloc ?_ (by first | omega | (simp; omega) | (simp; done) | (simp at *; omega)) _ | refine Below.setCell ?_ (by first | omega | (simp; omega) | (simp; done) | (simp at *; omega)) _ | refine Below.trans ?_ (Below.mono (by assumption) (by first | omega | (simp; omega) | (simp; done) | (simp at *; omega)))))⟩
      case round =>
        obtain ⟨k, hk, rfl, HO, hb⟩ := hrel
        have hz := hb.size
        obtain ⟨wo, hwo⟩ : ∃ wo, wo = wr := ⟨_, rfl⟩
        subst hwo
        by_cases hlt : k < ms.length
        · obtain ⟨b, off, x, rfl, hbl, hc, hx, hcx⟩ := HG1.out k hlt
          have hc' := (hb.cell (p := ⟨b, off + k, none⟩) hbl).trans hc
          have HX := Lib.hid hcx
          have HL := Lib.hid (show (cntL ms cuts k).length + [(cnt cuts (cn .f32 x) cuts.length : Int)].length < 1099511627776 by rw [cntL_length]; simp; omega)
          clear hc hcx
          go_wp2_with fail
          go_loopw [13, 38] (fun q i wr => ∃ j : Nat, j ≤ cuts.length ∧ i = .int .i64 (j : Int) ∧ q = .int .i64 (cnt cuts (cn .f32 x) j : Int) ∧ ∃ d, wr = wo.drewN d) (fun _ i _ => cuts.length - (intOf i).toNat)
          case atStart => exact ⟨0, Nat.zero_le _, rfl, rfl, 0, rfl⟩
          case round =>
            obtain ⟨j, hj, rfl, rfl, d, rfl⟩ := hrel
            by_cases hlt2 : j < cuts.length
            · obtain ⟨b', off', y, rfl, hbl', hc2, hy, hcy⟩ := HGV.out j hlt2
              have hc3 := (hb.cell (p := ⟨b', off' + j, none⟩) (Nat.lt_of_lt_of_le hbl' hz1)).trans ((hbl1.cell (p := ⟨b', off' + j, none⟩) hbl').trans hc2)
              have HY := Lib.hid hcy
              have hcl := cnt_le cuts (cn .f32 x) j
              clear hc2 hcy
              cases hp : fc .leq .f32 (cn .f32 y) (cn .f32 x)
              all_goals
                have HP := Lib.hid hp
                have HE := Lib.hid (show cnt cuts (cn .f32 x) (j + 1) = cnt cuts (cn .f32 x) j + (if fc .leq .f32 (cn .f32 y) (cn .f32 x) then 1 else 0) by rw [HY.out]; rfl)
                clear hp
                go_wp2_with (refine wpList_fc .f32 _ _ rfl rfl rfl ?_; rw [HP.out])
                refine ⟨⟨j + 1, by omega, by go_num, ?_, _, rfl⟩, by simp [intOf]; omega⟩
                rw [HE.out, HP.out]
                first | rfl | (simp; done) | (simp only [Bool.false_eq_true, if_false, if_true, Nat.add_zero]; first | rfl | go_num)
            · obtain rfl : j = cuts.length := by omega
              have hcl := cnt_le cuts (cn .f32 x) cuts.length
              go_wp2_with (at_builtin; refine wpList_gapp (inj := Value.int .i64) one64S (fun _ => rfl) w1.heap.size u10 _ rfl (by first | exact GO.drewN (GO.alloc HO.out _) _ | exact GO.alloc HO.out _) [(cnt cuts (cn .f32 x) cuts.length : Int)] _ 1 rfl rfl (by intro i u hu; rcases i with _ | i <;> simp at hu; subst hu; simp) HL.out (by simp; omega) ?_; intro v' w' ho' hg'; have HO' := Lib.hid ho'; clear ho')
              refine ⟨⟨k + 1, by omega, by go_num, ?_, ?_⟩, by simp [intOf]; omega⟩
              · show GO _ _ _ _ _ _
                rw [cntL_succ, ← HX.out]; exact HO'.out
              · refine below_of_grown ?_ hg' (by simp; omega) HO.out.own_ge
                (repeat (first | exact Below.refl _ _ | assumption | refine below_drewN ?_ _ | refine Below.drew ?_ | refine Below.alloc ?_ (by first | omega | (simp; omega) | (simp; done) | (simp at *; omega)) _ | refine Below.setCell ?_ (by first | omega | (simp; omega) | (simp; done) | (simp at *; omega)) _ | refine Below.trans ?_ (Below.mono (by assumption) (by first | omega | (simp; omega) | (simp; done) | (simp at *; omega)))))
        · go_wp2_with fail
          go_ret2
          obtain rfl : k = ms.length := by omega
          refine ⟨⟨_, _, rfl, HO.out.down hz1, rfl⟩, hbl1.trans (hb.mono hz1)⟩

end Go.Proofs.Ytkkomajokdlkeaa
