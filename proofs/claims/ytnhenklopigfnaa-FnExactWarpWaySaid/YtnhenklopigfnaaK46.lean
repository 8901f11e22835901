/- The first greatest number; discords. -/
import Derived.Test.YtnhenklopigfnaaK44
import Derived.Test.YtnhenklopigfnaaK42
namespace Go.Proofs.Ytnhenklopigfnaa
set_option linter.unusedSimpArgs false
set_option linter.unusedVariables false
set_option maxRecDepth 100000
set_option maxHeartbeats 4000000
set_option linter.unusedSimpArgs false
set_option linter.unusedVariables false
open Go.RowKit
attribute [local go_sem] run_store_float run_store_complex alloc_drewN setCell_drewN

theorem SB.getX2 {w : World} {v : Value} {cs : List Nat} (h : SB w v cs) {n : Nat} (hn : cs.length = n) : ∃ ao c, v = .slice ao n c ∧ n ≤ c ∧ c ≤ 9223372036854775807 ∧ ∀ i, i < n → ∃ b off r, ao = some ⟨b, off, none⟩ ∧ b < w.heap.size ∧ w.cell? ⟨b, off + i, none⟩ = some (.float .f32 r) ∧ r < 4294967296 ∧ cn .f32 r = cs.getD i 0 := by
  obtain ⟨ao, c, xs, rfl, rfl, h3, h5, h4⟩ := h
  have hn' : xs.length = n := by simpa using hn
  subst hn'
  refine ⟨ao, c, rfl, h3.1, h3.2, fun i hi => ?_⟩
  obtain ⟨b, off, e1, e2, e3⟩ := h4 i hi
  exact ⟨b, off, xs[i], e1, e2, e3, h5 _ (List.getElem_mem hi), by simp [hi]⟩
/-- The index of the first greatest one (op: 'greater') of the first k numbers. -/
def bigAt (op : BinOp) (cs : List Nat) : Nat → Nat
  | 0 => 0
  | k + 1 => if fc op .f32 (cs.getD k 0) (cs.getD (bigAt op cs k) 0) = true then k else bigAt op cs k
theorem bigAt_lt (op : BinOp) (cs : List Nat) {n k : Nat} (h0 : 0 < n) (hk : k ≤ n) : bigAt op cs k < n := by
  induction k with
  | zero => exact h0
  | succ k ih =>
    rw [bigAt]
    split
    · omega
    · exact ih (by omega)
theorem bigAt_take {op : BinOp} {cs : List Nat} {k : Nat} (h : fc op .f32 (cs.getD k 0) (cs.getD (bigAt op cs k) 0) = true) : bigAt op cs (k + 1) = k := by rw [bigAt, if_pos h]
theorem bigAt_leave {op : BinOp} {cs : List Nat} {k : Nat} (h : fc op .f32 (cs.getD k 0) (cs.getD (bigAt op cs k) 0) = false) : bigAt op cs (k + 1) = bigAt op cs k := by rw [bigAt, if_neg (by rw [h]; exact Bool.false_ne_true)]
theorem order_of_gtr {x y : Nat} {b : Bool} (h : fc .gtr .f32 (cn .f32 x) (cn .f32 y) = b) : (FloatKind.f32.format.order x y == some .gt) = b := by
  rw [← h]
  show _ = (FloatKind.f32.format.order _ _ == some .gt)
  rw [order_cn]
theorem pfQ_pos {cs : List Nat} {long : Int} (h : (pfQ cs long).2.2 = true) : 0 < (pfQ cs long).1.length ∧ (pfQ cs long).2.1.length = (pfQ cs long).1.length := by
  unfold pfQ at h ⊢
  split at h
  · rename_i h1
    rw [if_pos h1]
    simp only [Bool.and_eq_true] at h1
    have h2 := (inB_iff _ _ _).1 h1.2
    split at h
    · rename_i h3
      rw [if_pos h3]
      unfold pfEnd at h ⊢
      split at h
      · rename_i h4
        rw [if_pos h4]
        dsimp only
        rw [pfFars_length, pfAts_length]
        exact ⟨by omega, rfl⟩
      · cases h
    · cases h
  · cases h
def dsEnd (L : List Nat) : Int × Nat × Bool := ((bigAt .gtr L L.length : Int), L.getD (bigAt .gtr L L.length) 0, true)
def dsQ (cs : List Nat) (long : Int) : Int × Nat × Bool := if (pfQ cs long).2.2 then dsEnd (pfQ cs long).1 else (0, 0, false)
theorem dsQ_no {cs : List Nat} {long : Int} (h : (pfQ cs long).2.2 = false) : dsQ cs long = (0, 0, false) := by rw [dsQ, h]; rfl
theorem dsQ_yes {cs : List Nat} {long : Int} (h : (pfQ cs long).2.2 = true) : dsQ cs long = dsEnd (pfQ cs long).1 := by rw [dsQ, h]; rfl

theorem i_first (v : Value) (cs : List Nat) (w : World) (hv : SB w v cs) (h0 : 0 < cs.length) :
    Calls Try.prog 116 #[v] w fun e w' => e = .returned (.int .i64 (bigAt .gtr cs cs.length)) ∧ Dr w w' := by
  obtain ⟨ao, c, rfl, hc1, hc2, hget⟩ := hv.getX2 rfl
  have HG := Lib.hid hget
  clear hget hv
  go_enter Try.func116, Try.ntmps116
  go_wp2_with fail
  go_loopw [3, 8] (fun b i wr => ∃ k : Nat, k ≤ cs.length ∧ i = .int .i64 (k : Int) ∧ b = .int .i64 (bigAt .gtr cs k : Nat) ∧ ∃ d, wr = w.drewN d) (fun _ i _ => cs.length - (intOf i).toNat)
  case atStart => exact ⟨0, Nat.zero_le _, rfl, rfl, 0, rfl⟩
  case round =>
    obtain ⟨k, hk, rfl, rfl, dn, rfl⟩ := hrel
    by_cases hlt : k < cs.length
    · obtain ⟨b, off, x, rfl, hbl, hc, hx, hcx⟩ := HG.out k hlt
      have hml := bigAt_lt .gtr cs h0 hk
      obtain ⟨b2, off2, y, e2, hbl2, hd, hy, hcy⟩ := HG.out (bigAt .gtr cs k) hml
      simp only [Option.some.injEq, Addr.mk.injEq, and_true] at e2
      obtain ⟨rfl, rfl⟩ := e2
      cases hg : fc .gtr .f32 (cs.getD k 0) (cs.getD (bigAt .gtr cs k) 0)
      · have HT := Lib.hid (bigAt_leave hg)
        rw [← hcx, ← hcy] at hg
        have HGT := Lib.hid hg
        clear hg hcx hcy
        obtain ⟨m, hm⟩ : ∃ m, m = bigAt .gtr cs k := ⟨_, rfl⟩
        rw [← hm] at hd HT hml ⊢
        clear hm
        go_wp2_with (first | (refine wpList_fc .f32 _ _ rfl rfl rfl ?_; rw [HGT.out]))
        refine ⟨⟨k + 1, by omega, by go_num, ?_, _, rfl⟩, by simp [intOf]; omega⟩
        rw [HT.out]
      · have HT := Lib.hid (bigAt_take hg)
        rw [← hcx, ← hcy] at hg
        have HGT := Lib.hid hg
        clear hg hcx hcy
        obtain ⟨m, hm⟩ : ∃ m, m = bigAt .gtr cs k := ⟨_, rfl⟩
        rw [← hm] at hd hml ⊢
        clear hm
        go_wp2_with (first | (refine wpList_fc .f32 _ _ rfl rfl rfl ?_; rw [HGT.out]))
        refine ⟨⟨k + 1, by omega, by go_num, ?_, _, rfl⟩, by simp [intOf]; omega⟩
        rw [HT.out]
    · go_wp2_with fail
      go_ret
      obtain rfl : k = cs.length := by omega
      exact ⟨rfl, _, rfl⟩

theorem i_DiscordOf (v : Value) (cs : List Nat) (long : Int) (w : World) (hv : SB w v cs) :
    Calls Try.prog 56 #[v, .int .i64 long] w fun e w' => NE e (dsQ cs long) ∧ Below w.heap.size w w' := by
  have HV := Lib.hid hv
  clear hv
  cases hp : (pfQ cs long).2.2
  · have HP := Lib.hid hp
    have HQ := Lib.hid (dsQ_no hp)
    clear hp
    go_enter Try.func56, Try.ntmps56
    go_wp2_with (go_at_call 54; refine (i_ProfileOf _ cs long _ HV.out).mono ?_; rintro z w1 ⟨⟨u, u2, b1, rfl, ho, ho2, hb⟩, hb1⟩; rw [HP.out] at hb; subst hb; clear ho ho2)
    go_ret3
    exact ⟨NE.no HQ.out, by (repeat (first | with_reducible exact Below.refl _ _ | with_reducible assumption | with_reducible refine below_drewN ?_ _ | with_reducible refine Below.drew ?_ | with_reducible refine Below.alloc ?_ (by first | omega | (simp; omega) | (simp; done) | (simp at *; omega)) _ | with_reducible refine Below.setCell ?_ (by first | omega | (simp; omega) | (simp; done) | (simp at *; omega)) _ | refine Below.trans ?_ (Below.mono (by with_reducible assumption) (by first | omega | (simp; omega) | (simp; done) | (simp at *; omega)))))⟩
  · have HQ := Lib.hid (dsQ_yes hp)
    obtain ⟨h0, -⟩ := pfQ_pos hp
    have HP := Lib.hid hp
    clear hp
    obtain ⟨L, hL⟩ : ∃ L, L = (pfQ cs long).1 := ⟨_, rfl⟩
    rw [← hL] at h0 HQ
    have HL := Lib.hid hL
    clear hL
    have hml := bigAt_lt .gtr L h0 (Nat.le_refl _)
    obtain ⟨m, hm⟩ : ∃ m, m = bigAt .gtr L L.length := ⟨_, rfl⟩
    rw [← hm] at hml
    have HM := Lib.hid hm
    clear hm
    go_enter Try.func56, Try.ntmps56
    go_wp2_with (first
      | (go_at_call 54; refine (i_ProfileOf _ cs long _ HV.out).mono ?_; rintro z w1 ⟨⟨u, u2, b1, rfl, ho, ho2, hb⟩, hb1⟩; rw [HP.out] at hb; subst hb; rw [← HL.out] at ho; clear ho2; obtain ⟨uo, uc, rfl, hu1, hu2, huget⟩ := ho.sb.getX2 rfl; obtain ⟨bu, ou, x, rfl, hbl, hcx, hx, hxx⟩ := huget m hml; have HO := Lib.hid ho.sb; have HX := Lib.hid hxx; clear ho huget hxx)
      | (go_at_call 116; refine (i_first _ L _ HO.out h0).mono ?_; rintro z w2 ⟨rfl, n2, rfl⟩; rw [← HM.out]))
    go_region_with fail
    all_goals
      go_wp2_with fail
      go_ret3
      refine ⟨⟨_, _, _, rfl, hx, ?_, ?_, ?_⟩, by (repeat (first | with_reducible exact Below.refl _ _ | with_reducible assumption | with_reducible refine below_drewN ?_ _ | with_reducible refine Below.drew ?_ | with_reducible refine Below.alloc ?_ (by first | omega | (simp; omega) | (simp; done) | (simp at *; omega)) _ | with_reducible refine Below.setCell ?_ (by first | omega | (simp; omega) | (simp; done) | (simp at *; omega)) _ | refine Below.trans ?_ (Below.mono (by with_reducible assumption) (by first | omega | (simp; omega) | (simp; done) | (simp at *; omega)))))⟩
      · rw [HQ.out, dsEnd, HM.out]
      · rw [HX.out, HQ.out, dsEnd, HM.out]
      · rw [HQ.out]; rfl

end Go.Proofs.Ytnhenklopigfnaa
