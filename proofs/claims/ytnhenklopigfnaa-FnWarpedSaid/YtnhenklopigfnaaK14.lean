/- Contracts: where numbers have drifted far. -/
import Derived.Test.YtnhenklopigfnaaK13
namespace Go.Proofs.Ytnhenklopigfnaa
set_option linter.unusedSimpArgs false
set_option linter.unusedVariables false
set_option maxRecDepth 100000
set_option maxHeartbeats 4000000
open Go.RowKit
attribute [local go_sem] run_store_float run_store_complex alloc_drewN setCell_drewN

/-- The first number that is so, -1 if there is none. -/
def dFind (p : Nat → Bool) (n : Nat) : Int := match (List.range n).find? p with | some i => (i : Int) | none => -1
theorem dFind_hit {p : Nat → Bool} {n k : Nat} (hk : k < n) (hp : p k = true) (hb : ∀ i, i < k → p i = false) : dFind p n = k := by
  have : (List.range n).find? p = some k := by
    rw [List.find?_range_eq_some]
    exact ⟨hp, by simpa using hk, fun j hj => by simp [hb j hj]⟩
  rw [dFind, this]
theorem dFind_none {p : Nat → Bool} {n : Nat} (hb : ∀ i, i < n → p i = false) : dFind p n = -1 := by
  have : (List.range n).find? p = none := by
    rw [List.find?_eq_none]
    intro i hi
    have := hb i (by simpa using hi)
    simp [this]
  rw [dFind, this]
theorem driftQ_len {down : Bool} {cs : List Nat} {cm ck : Nat} (h : (driftQ down cs cm ck).2 = true) : (driftQ down cs cm ck).1.length = cs.length ∧ cs.length ≤ 96 := by
  unfold driftQ at h ⊢
  split
  · rename_i hok
    rw [if_pos hok] at h
    refine ⟨?_, (series_len (show series cs = true by simp only [driftOk, Bool.and_eq_true] at hok; exact hok.1.1)).2⟩
    unfold given at h ⊢
    dsimp only at h ⊢
    rw [if_pos h, dL_length]
  · rename_i hok
    rw [if_neg hok] at h
    cases h
theorem driftQ_short (down : Bool) (cs : List Nat) (cm ck : Nat) : (driftQ down cs cm ck).1.length < 1000000 := by
  unfold driftQ
  split
  · rename_i hok
    have := (series_len (show series cs = true by simp only [driftOk, Bool.and_eq_true] at hok; exact hok.1.1)).2
    unfold given
    dsimp only
    split
    · rw [dL_length]; omega
    · simp
  · simp
def daFar (cs : List Nat) (cm ck cb : Nat) (i : Nat) : Bool := fc .gtr .f32 ((driftQ false cs cm ck).1.getD i 0) cb || fc .gtr .f32 ((driftQ true cs cm ck).1.getD i 0) cb
def daQ (cs : List Nat) (cm ck cb : Nat) : Int × Bool :=
  if (driftQ false cs cm ck).2 && (driftQ true cs cm ck).2 && least cb then (dFind (daFar cs cm ck cb) cs.length, true) else (0, false)
theorem daQ_no {cs : List Nat} {cm ck cb : Nat} (h : ((driftQ false cs cm ck).2 && (driftQ true cs cm ck).2 && least cb) = false) : daQ cs cm ck cb = (0, false) := by rw [daQ, h]; rfl
theorem daQ_yes {cs : List Nat} {cm ck cb : Nat} (h : ((driftQ false cs cm ck).2 && (driftQ true cs cm ck).2 && least cb) = true) : daQ cs cm ck cb = (dFind (daFar cs cm ck cb) cs.length, true) := by rw [daQ, h]; rfl
theorem ret_ib {a c : Int} {b d : Bool} (h1 : a = c) (h2 : b = d) : Ending.returned (.tuple #[.int .i64 a, .bool b]) = .returned (.tuple #[.int .i64 c, .bool d]) := by rw [h1, h2]


theorem i_DriftAt (v : Value) (cs : List Nat) (m k b : Nat) (w : World) (hv : SB w v cs) :
    Calls Try.prog 16 #[v, .float .f32 m, .float .f32 k, .float .f32 b] w fun z w' => z = .returned (.tuple #[.int .i64 (daQ cs (cn .f32 m) (cn .f32 k) (cn .f32 b)).1, .bool (daQ cs (cn .f32 m) (cn .f32 k) (cn .f32 b)).2]) ∧ Below w.heap.size w w' := by
  have HV := Lib.hid hv
  cases hok : ((driftQ false cs (cn .f32 m) (cn .f32 k)).2 && (driftQ true cs (cn .f32 m) (cn .f32 k)).2 && least (cn .f32 b))
  · cases t1 : (driftQ false cs (cn .f32 m) (cn .f32 k)).2
    all_goals
      cases t2 : (driftQ true cs (cn .f32 m) (cn .f32 k)).2
      all_goals
        cases t3 : least (cn .f32 b)
        all_goals first
          | (exfalso; rw [t1, t2, t3] at hok; cases hok; done)
          | (have HOK := Lib.hid hok
             have HT1 := Lib.hid t1
             have HT2 := Lib.hid t2
             have HT3 := Lib.hid t3
             clear hok t1 t2 t3
             go_enter Try.func16, Try.ntmps16
             go_wp2_with (first
               | (go_at_call 14; refine (i_DriftUp _ cs m k _ HV.out).mono ?_; rintro e w1 ⟨⟨v1, b1, rfl, ho1, hb1⟩, hbl1⟩; rw [HT1.out] at hb1; subst hb1; have HO1 := Lib.hid ho1; have hz1 := hbl1.size; clear ho1)
               | (go_at_call 15; refine (i_DriftDown _ cs m k _ (SB.keep HV.out hbl1)).mono ?_; rintro e w2 ⟨⟨v2, b2, rfl, ho2, hb2⟩, hbl2⟩; rw [HT2.out] at hb2; subst hb2; have HO2 := Lib.hid ho2; have hz2 := hbl2.size; clear ho2)
               | (go_at_call 71; refine (i_areNotLess _ ([b].map (cn .f32)) _ (by first | exact SL.lit _ [b] _ _ (by simp) rfl (by simp) | exact SL.drewN (SL.lit _ [b] _ _ (by simp) rfl (by simp)) _)).mono ?_; rintro z w3 ⟨rfl, n3, rfl⟩; rw [show allLeast ([b].map (cn .f32)) = least (cn .f32 b) by simp [allLeast], HT3.out]))
             have hb12 : Below w.heap.size w w2 := hbl1.trans (hbl2.mono hz1)
             go_ret2
             exact ⟨ret_ib (by rw [daQ_no HOK.out]) (by rw [daQ_no HOK.out]), by (repeat (first | exact Below.refl _ _ | assumption | refine below_drewN ?_ _ | refine Below.drew ?_ | refine Below.alloc ?_ (by first | omega | (simp; omega) | (simp; done) | (simp at *; omega)) _ | refine Below.setCell ?_ (by first | omega | (simp; omega) | (simp; done) | (simp at *; omega)) _ | refine Below.trans ?_ (Below.mono (by assumption) (by first | omega | (simp; omega) | (simp; done) | (simp at *; omega)))))⟩)
  · have hok' := hok
    simp only [Bool.and_eq_true] at hok'
    obtain ⟨⟨t1, t2⟩, t3⟩ := hok'
    have HL1 := Lib.hid (driftQ_len t1).1
    have HL2 := Lib.hid (driftQ_len t2).1
    have hn := (driftQ_len t1).2
    have HOK := Lib.hid hok
    have HT3 := Lib.hid t3
    have HT1 := Lib.hid t1
    have HT2 := Lib.hid t2
    obtain ⟨ao, c, rfl, hlen⟩ := hv.sl.slice
    clear hv hok t1 t2 t3
    go_enter Try.func16, Try.ntmps16
    go_wp2_with (first
      | (go_at_call 14; refine (i_DriftUp _ cs m k _ HV.out).mono ?_; rintro e w1 ⟨⟨v1, b1, rfl, ho1, hb1⟩, hbl1⟩; rw [HT1.out] at hb1; subst hb1; obtain ⟨a1, c1, rfl, d1, d2, hget1⟩ := ho1.sb.get HL1.out; have HO1 := Lib.hid ho1; have HG1 := Lib.hid hget1; have hz1 := hbl1.size; clear ho1 hget1)
      | (go_at_call 15; refine (i_DriftDown _ cs m k _ (SB.keep HV.out hbl1)).mono ?_; rintro e w2 ⟨⟨v2, b2, rfl, ho2, hb2⟩, hbl2⟩; rw [HT2.out] at hb2; subst hb2; obtain ⟨a2, c2, rfl, d3, d4, hget2⟩ := ho2.sb.get HL2.out; have HO2 := Lib.hid ho2; have HG2 := Lib.hid hget2; have hz2 := hbl2.size; clear ho2 hget2)
      | (go_at_call 71; refine (i_areNotLess _ ([b].map (cn .f32)) _ (by first | exact SL.lit _ [b] _ _ (by simp) rfl (by simp) | exact SL.drewN (SL.lit _ [b] _ _ (by simp) rfl (by simp)) _)).mono ?_; rintro z w3 ⟨rfl, n3, rfl⟩; rw [show allLeast ([b].map (cn .f32)) = least (cn .f32 b) by simp [allLeast], HT3.out]))
    have hb12 : Below w.heap.size w w2 := hbl1.trans (hbl2.mono hz1)
    go_loopw [43] (fun i wr => ∃ j : Nat, j ≤ cs.length ∧ i = .int .i64 (j : Int) ∧ Hid (∀ i, i < j → daFar cs (cn .f32 m) (cn .f32 k) (cn .f32 b) i = false) ∧ Below w2.heap.size w2 wr) (fun i _ => cs.length - (intOf i).toNat)
    case atStart => exact ⟨0, Nat.zero_le _, rfl, (by intro i hi; omega), by (repeat (first | exact Below.refl _ _ | assumption | refine below_drewN ?_ _ | refine Below.drew ?_ | refine Below.alloc ?_ (by first | omega | (simp; omega) | (simp; done) | (simp at *; omega)) _ | refine Below.setCell ?_ (by first | omega | (simp; omega) | (simp; done) | (simp at *; omega)) _ | refine Below.trans ?_ (Below.mono (by assumption) (by first | omega | (simp; omega) | (simp; done) | (simp at *; omega)))))⟩
    case round =>
      obtain ⟨j, hj, rfl, HJ, hb⟩ := hrel
      have hz := hb.size
      by_cases hlt : j < cs.length
      · obtain ⟨b1, o1, x1, rfl, hbl1', hcl1, hx1, hcx1⟩ := HG1.out j hlt
        have hc1' := ((hbl2.trans (hb.mono hz2)).cell (p := ⟨b1, o1 + j, none⟩) hbl1').trans hcl1
        obtain ⟨b2, o2, x2, rfl, hbl2', hcl2, hx2, hcx2⟩ := HG2.out j hlt
        have hc2' := (hb.cell (p := ⟨b2, o2 + j, none⟩) hbl2').trans hcl2
        have HX1 := Lib.hid hcx1
        have HX2 := Lib.hid hcx2
        clear hcl1 hcl2 hcx1 hcx2
        cases hp1 : fc .gtr .f32 (cn .f32 x1) (cn .f32 b)
        all_goals
          cases hp2 : fc .gtr .f32 (cn .f32 x2) (cn .f32 b)
          all_goals
            have HP1 := Lib.hid hp1
            have HP2 := Lib.hid hp2
            have HD := Lib.hid (show daFar cs (cn .f32 m) (cn .f32 k) (cn .f32 b) j = (fc .gtr .f32 (cn .f32 x1) (cn .f32 b) || fc .gtr .f32 (cn .f32 x2) (cn .f32 b)) by rw [daFar, HX1.out, HX2.out])
            clear hp1 hp2
            go_wp2_with (first | (refine wpList_fc .f32 _ _ rfl rfl rfl ?_; first | rw [HP1.out] | rw [HP2.out]) | (refine wpList_fc_g rfl .f32 _ _ rfl rfl rfl ?_; first | rw [HP1.out] | rw [HP2.out]))
            first
              | (go_ret2
                 refine ⟨ret_ib ?_ ?_, by (repeat (first | exact Below.refl _ _ | assumption | refine below_drewN ?_ _ | refine Below.drew ?_ | refine Below.alloc ?_ (by first | omega | (simp; omega) | (simp; done) | (simp at *; omega)) _ | refine Below.setCell ?_ (by first | omega | (simp; omega) | (simp; done) | (simp at *; omega)) _ | refine Below.trans ?_ (Below.mono (by assumption) (by first | omega | (simp; omega) | (simp; done) | (simp at *; omega)))))⟩
                 · rw [daQ_yes HOK.out]; exact (dFind_hit hlt (by rw [HD.out, HP1.out, HP2.out]; rfl) HJ.out).symm
                 · rw [daQ_yes HOK.out]
                 done)
              | (refine ⟨⟨j + 1, by omega, by go_num, ?_, by (repeat (first | exact Below.refl _ _ | assumption | refine below_drewN ?_ _ | refine Below.drew ?_ | refine Below.alloc ?_ (by first | omega | (simp; omega) | (simp; done) | (simp at *; omega)) _ | refine Below.setCell ?_ (by first | omega | (simp; omega) | (simp; done) | (simp at *; omega)) _ | refine Below.trans ?_ (Below.mono (by assumption) (by first | omega | (simp; omega) | (simp; done) | (simp at *; omega)))))⟩, by simp [intOf]; omega⟩
                 intro i hi
                 rcases Nat.lt_or_ge i j with h | h
                 · exact HJ.out i h
                 · obtain rfl : i = j := by omega
                   rw [HD.out, HP1.out, HP2.out]; rfl)
      · go_wp2_with fail
        go_ret2
        obtain rfl : j = cs.length := by omega
        refine ⟨ret_ib ?_ ?_, by (repeat (first | exact Below.refl _ _ | assumption | refine below_drewN ?_ _ | refine Below.drew ?_ | refine Below.alloc ?_ (by first | omega | (simp; omega) | (simp; done) | (simp at *; omega)) _ | refine Below.setCell ?_ (by first | omega | (simp; omega) | (simp; done) | (simp at *; omega)) _ | refine Below.trans ?_ (Below.mono (by assumption) (by first | omega | (simp; omega) | (simp; done) | (simp at *; omega)))))⟩
        · rw [daQ_yes HOK.out]; exact (dFind_none HJ.out).symm
        · rw [daQ_yes HOK.out]

end Go.Proofs.Ytnhenklopigfnaa
