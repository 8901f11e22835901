/- Contracts: a text cut at a byte, a number in decimal, by the reference. -/
import Derived.Test.YtebahccjaieajaaGreatDoorK90
import Derived.Test.YtebahccjaieajaaGreatDoorK73
import Derived.Test.YtebahccjaieajaaGreatDoorJn
namespace Go.Proofs.YtebahccjaieajaaGreatDoor
set_option linter.unusedSimpArgs false
set_option linter.unusedVariables false
set_option maxRecDepth 100000
set_option maxHeartbeats 4000000
open Go.RowKit
attribute [local go_sem] run_store_float run_store_complex alloc_drewN setCell_drewN

theorem strV_one (s : ByteArray) : (Value.string s).oneCell' = true := rfl
theorem data_at (s : ByteArray) {k : Nat} (h : k < s.size) : s.data.toList[k]'(by simpa using h) = s[k] := by simp; rfl
theorem data_len (s : ByteArray) : s.data.toList.length = s.size := by simp
theorem map_snoc (done : List (List UInt8)) (x : List UInt8) : done.map tx ++ [tx x] = (done ++ [x]).map tx := by simp

theorem oneStrS : OneC Tryz.prog 31 9 (.string ByteArray.empty) 16 := oneC_of Tryz.underlying31 (by kernel_rfl) rfl (by decide)
theorem s_l01Cut (s : ByteArray) (c : UInt8) (hs : s.size ≤ 1000000000) (w : World) :
    Calls Tryz.prog 18 #[.string s, .int .u8 (c.toNat : Int)] w fun e w' => ∃ u, e = .returned u ∧ GO Value.string 9 w.heap.size w' u (cutB c s) ∧ Below w.heap.size w w' := by
  have hcl := cutC_le c s.data.toList
  rw [data_len] at hcl
  go_enter Tryz.func18, Tryz.ntmps18
  go_wp2_with fail
  go_loopw [5, 6, 7] (fun o fr i wr => ∃ (k f : Nat) (done : List (List UInt8)), k ≤ s.size + 1 ∧ fr = .int .i64 (f : Int) ∧ i = .int .i64 (k : Int) ∧ f ≤ k ∧ Hid (GO Value.string 9 w.heap.size wr o (done.map tx)) ∧ Hid (k ≤ s.size → CutAt c s.data.toList done f k) ∧ Hid (k = s.size + 1 → done = cutC c s.data.toList) ∧ Below w.heap.size w wr) (fun _ _ i _ => s.size + 1 - (intOf i).toNat)
  case atStart => exact ⟨0, 0, [], by omega, rfl, rfl, Nat.le_refl _, GO.empty _ _ rfl (Nat.le_refl _), fun _ => CutAt.start _ _, (fun h => by simp at h), (Below.refl _ _).alloc (Nat.le_refl _) _⟩
  case round =>
    obtain ⟨k, f, done, hk, rfl, rfl, hfk, HO, HC, HE, hb⟩ := hrel
    have hsz := hb.size
    by_cases hlt : k < s.size
    · have hcu := HC.out (by omega)
      have hby := s[k].toNat_lt
      have hcy := c.toNat_lt
      have hd : done.length + 1 < 1099511627776 := by
        have h1 := hcu.2.2.1
        have h2 : (cutC c s.data.toList).length = done.length + (cutC c (s.data.toList.drop f)).length := by rw [h1, List.length_append]
        have h3 := cutC_len c (s.data.toList.drop f)
        omega
      by_cases he : s[k] = c
      · have HN := Lib.hid (hcu.hit (by rw [data_len]; exact hlt) ((data_at s hlt).trans he))
        have HP := Lib.hid (tx_piece s f k)
        have HM := Lib.hid (map_snoc done ((s.data.toList.drop f).take (k - f)))
        have he2 : (((s[k].toNat : Nat) : Int) == ((c.toNat : Nat) : Int)) = true := by rw [he]; simp
        clear hcu
        go_wp2_with (at_builtin; refine wpList_gapp (inj := Value.string) oneStrS strV_one w.heap.size _ _ rfl (GO.alloc HO.out _) [s.extract f k] _ 1 rfl rfl (by intro i u hu; cases i with | zero => (simp only [List.getElem?_cons_zero, Option.some.injEq] at hu; subst hu; simp) | succ i => simp at hu) (by simp only [List.length_map, List.length_cons, List.length_nil]; omega) (by simp; omega) ?_; intro v2 w2 hown2 hg2; have HO2 := Lib.hid hown2; have HG2 := Lib.hid hg2; clear hown2 hg2)
        refine ⟨⟨k + 1, k + 1, _, by omega, by go_num, by go_num, Nat.le_refl _, ?_, fun _ => HN.out, fun h => absurd h (by omega), (hb.alloc hsz _).grown HG2.out (by simp; omega) HO.out.own_ge⟩, by simp [intOf]; omega⟩
        show GO _ _ _ _ _ _
        rw [← HM.out, ← HP.out]
        exact HO2.out
      · have HN := Lib.hid (hcu.step (by rw [data_len]; exact hlt) (fun e => he ((data_at s hlt).symm.trans e)))
        have he2 : (((s[k].toNat : Nat) : Int) == ((c.toNat : Nat) : Int)) = false := by
          rw [beq_eq_false_iff_ne]
          intro e
          exact he (UInt8.toNat_inj.1 (by omega))
        clear hcu he
        go_wp2_with fail
        exact ⟨⟨k + 1, f, done, by omega, rfl, by go_num, by omega, HO.out, fun _ => HN.out, fun h => absurd h (by omega), hb⟩, by simp [intOf]; omega⟩
    · by_cases hle : k = s.size
      · subst hle
        have hcu := HC.out (Nat.le_refl _)
        have hd : done.length + 1 < 1099511627776 := by
          have h1 := hcu.2.2.1
          have h2 : (cutC c s.data.toList).length = done.length + (cutC c (s.data.toList.drop f)).length := by rw [h1, List.length_append]
          have h3 := cutC_len c (s.data.toList.drop f)
          omega
        have HN := Lib.hid (show cutC c s.data.toList = done ++ [(s.data.toList.drop f).take (s.size - f)] from (CutAt.all (by rw [data_len]; exact hcu)).trans (by rw [data_len]))
        have HP := Lib.hid (tx_piece s f s.size)
        have HM := Lib.hid (map_snoc done ((s.data.toList.drop f).take (s.size - f)))
        clear hcu
        go_wp2_with (at_builtin; refine wpList_gapp (inj := Value.string) oneStrS strV_one w.heap.size _ _ rfl (GO.alloc HO.out _) [s.extract f s.size] _ 1 rfl rfl (by intro i u hu; cases i with | zero => (simp only [List.getElem?_cons_zero, Option.some.injEq] at hu; subst hu; simp) | succ i => simp at hu) (by simp only [List.length_map, List.length_cons, List.length_nil]; omega) (by simp; omega) ?_; intro v2 w2 hown2 hg2; have HO2 := Lib.hid hown2; have HG2 := Lib.hid hg2; clear hown2 hg2)
        refine ⟨⟨s.size + 1, s.size + 1, _, by omega, by go_num, by go_num, Nat.le_refl _, ?_, fun h => absurd h (by omega), fun _ => HN.out.symm, (hb.alloc hsz _).grown HG2.out (by simp; omega) HO.out.own_ge⟩, by simp [intOf]⟩
        show GO _ _ _ _ _ _
        rw [← HM.out, ← HP.out]
        exact HO2.out
      · have hk2 : k = s.size + 1 := by omega
        have HD := Lib.hid (HE.out hk2)
        clear HE HC
        subst hk2
        have hng : ¬ ((s.size : Int) + 1 ≤ (s.size : Int)) := by omega
        go_wp2_with fail
        go_ret
        refine ⟨_, rfl, ?_, hb⟩
        have h1 := HO.out
        rw [HD.out] at h1
        exact h1
theorem DecAt.len {m : Nat} {out : List UInt8} {r : Nat} (h : DecAt m out r) : out.length ≤ (Lib.decDigits m).length := by
  rcases h with ⟨rfl, -⟩ | ⟨-, h2⟩
  · simp
  · rw [h2, List.length_append]; omega
def lenOf : Value → Nat
  | .slice _ n _ => n
  | _ => 0
theorem lenOf_go {α : Type} {inj : α → Value} {T lo : Nat} {w : World} {v : Value} {xs : List α} (h : GO inj T lo w v xs) : lenOf v = xs.length := by
  obtain ⟨ao, c, rfl, -⟩ := h.slice
  rfl

theorem oneU8T : OneC Tryz.prog 73 5 (.int .u8 0) 1 := oneC_of Tryz.underlying73 (by kernel_rfl) rfl (by decide)
theorem s_l01Dec (n : Int) (h0 : -9223372036854775808 ≤ n) (h1 : n ≤ 9223372036854775807) (w : World) :
    Calls Tryz.prog 33 #[.int .i64 n] w fun e w' => e = .returned (.string (tx (Lib.itoa n))) ∧ Below w.heap.size w w' := by
  have hm : (Lib.decDigits n.natAbs).length ≤ 20 := by
    rw [Lib.decDigits_length]
    exact Nat.le_trans (nDigits_le 18 n.natAbs (by show _ < 10000000000000000000; omega)) (by decide)
  go_enter Tryz.func33, Tryz.ntmps33
  go_wp2_with fail
  go_loopw [3, 4] (fun o rs wr => ∃ (out : List UInt8) (r : Int), rs = .int .i64 r ∧ (-9223372036854775808 ≤ r ∧ r ≤ 9223372036854775807) ∧ (∃ b c, o = .slice (some ⟨b, 0, none⟩) out.length c) ∧ Hid (GO byV 5 w.heap.size wr o out) ∧ Hid (DecAt n.natAbs out r.natAbs) ∧ Below w.heap.size w wr) (fun o _ _ => 21 - lenOf o)
  case atStart => exact ⟨[], n, rfl, ⟨h0, h1⟩, ⟨_, _, rfl⟩, GO.empty _ _ rfl (Nat.le_refl _), DecAt.start _, (Below.refl _ _).alloc (Nat.le_refl _) _⟩
  case round =>
    obtain ⟨out, r, rfl, ⟨hr0, hr1⟩, ⟨b, c, rfl⟩, HO, HD, hb⟩ := hrel
    have hsz := hb.size
    have hl := HD.out.len
    by_cases hgo : out = [] ∨ r ≠ 0
    · have HN := Lib.hid (HD.out.step (by rcases hgo with h | h; exact .inl h; exact .inr (by omega)))
      obtain ⟨T1, T2⟩ := tmod_abs (n := r)
      have HT := Lib.hid (tdiv_abs r)
      have hq : r.natAbs % 10 < 10 := Nat.mod_lt _ (by decide)
      have HV := Lib.hid (dgt_val hq)
      have t2 : -9223372036854775808 ≤ r.tdiv 10 ∧ r.tdiv 10 ≤ 9223372036854775807 := by have := HT.out; omega
      obtain ⟨Q, hQ⟩ : ∃ Q : Int, Q = ((r.natAbs % 10 : Nat) : Int) := ⟨_, rfl⟩
      have hQ0 : 0 ≤ Q ∧ Q ≤ 9 := by omega
      have HB := Lib.hid (show byV (dgt (r.natAbs % 10)) = .int .u8 (48 + Q) by unfold byV; rw [HV.out, hQ])
      have HLA := Lib.hid ((HO.out.alloc (.cells #[byV (dgt (r.natAbs % 10))] 5)).gl.cells)
      have HLI := Lib.hid (GO.lit2 byV 5 w.heap.size wr [dgt (r.natAbs % 10)] rfl rfl rfl hsz (by simp))
      rw [HB.out] at HLA
      have hli2 := HLI.out
      simp only [List.map_cons, List.map_nil, HB.out] at hli2
      have HLI2 := Lib.hid hli2
      rw [← hQ] at T1 T2
      clear hli2 HLI HV hQ
      by_cases hneg : r.tmod 10 < 0
      all_goals first | have HE := T1 hneg | have HE := T2 hneg
      all_goals clear T1 T2
      · have hd : r.tmod 10 = -Q := by omega
        have hQ1 : 0 < Q := by omega
        have hd2 : -Q < 0 := by omega
        clear HE hneg
        by_cases ho : out = []
        · have e1 : ((out.length : Int) == 0) = true := by rw [ho]; rfl
          have e0 : out.length = 0 := by rw [ho]; rfl
          go_wp2_with (at_builtin; refine wpList_gappS (inj := byV) oneU8T byV_one w.heap.size _ [dgt (r.natAbs % 10)] rfl HLI2.out out b 0 out.length c rfl rfl HLA.out (by simp only [List.length_cons, List.length_nil]; omega) (by simp; omega) ?_; intro v2 w2 hown2 hg2; have HO2 := Lib.hid hown2; have HG2 := Lib.hid hg2; clear hown2 hg2)
          obtain ⟨b2, c2, rfl⟩ := HO2.out.addr (by simp)
          refine ⟨⟨dgt (r.natAbs % 10) :: out, r.tdiv 10, rfl, t2, ⟨_, _, rfl⟩, HO2.out, (by show DecAt _ _ _; rw [HT.out]; exact HN.out), (hb.alloc hsz _).grown HG2.out (by simp; omega) HLI2.out.own_ge⟩, ?_⟩
          show 21 - ([dgt (r.natAbs % 10)] ++ out).length < 21 - out.length
          simp only [List.length_append, List.length_cons, List.length_nil]
          omega
        · have hpos : 0 < out.length := List.length_pos_iff.2 ho
          have e1 : ((out.length : Int) == 0) = false := by rw [beq_eq_false_iff_ne]; omega
          have hr : r ≠ 0 := by rcases hgo with h | h; exact absurd h ho; exact h
          have e2 : (r != 0) = true := by simpa using hr
          go_wp2_with (at_builtin; refine wpList_gappS (inj := byV) oneU8T byV_one w.heap.size _ [dgt (r.natAbs % 10)] rfl HLI2.out out b 0 out.length c rfl rfl HLA.out (by simp only [List.length_cons, List.length_nil]; omega) (by simp; omega) ?_; intro v2 w2 hown2 hg2; have HO2 := Lib.hid hown2; have HG2 := Lib.hid hg2; clear hown2 hg2)
          obtain ⟨b2, c2, rfl⟩ := HO2.out.addr (by simp)
          refine ⟨⟨dgt (r.natAbs % 10) :: out, r.tdiv 10, rfl, t2, ⟨_, _, rfl⟩, HO2.out, (by show DecAt _ _ _; rw [HT.out]; exact HN.out), (hb.alloc hsz _).grown HG2.out (by simp; omega) HLI2.out.own_ge⟩, ?_⟩
          show 21 - ([dgt (r.natAbs % 10)] ++ out).length < 21 - out.length
          simp only [List.length_append, List.length_cons, List.length_nil]
          omega
      · have hd : r.tmod 10 = Q := HE
        have hd2 : ¬ Q < 0 := by omega
        clear HE hneg
        by_cases ho : out = []
        · have e1 : ((out.length : Int) == 0) = true := by rw [ho]; rfl
          have e0 : out.length = 0 := by rw [ho]; rfl
          go_wp2_with (at_builtin; refine wpList_gappS (inj := byV) oneU8T byV_one w.heap.size _ [dgt (r.natAbs % 10)] rfl HLI2.out out b 0 out.length c rfl rfl HLA.out (by simp only [List.length_cons, List.length_nil]; omega) (by simp; omega) ?_; intro v2 w2 hown2 hg2; have HO2 := Lib.hid hown2; have HG2 := Lib.hid hg2; clear hown2 hg2)
          obtain ⟨b2, c2, rfl⟩ := HO2.out.addr (by simp)
          refine ⟨⟨dgt (r.natAbs % 10) :: out, r.tdiv 10, rfl, t2, ⟨_, _, rfl⟩, HO2.out, (by show DecAt _ _ _; rw [HT.out]; exact HN.out), (hb.alloc hsz _).grown HG2.out (by simp; omega) HLI2.out.own_ge⟩, ?_⟩
          show 21 - ([dgt (r.natAbs % 10)] ++ out).length < 21 - out.length
          simp only [List.length_append, List.length_cons, List.length_nil]
          omega
        · have hpos : 0 < out.length := List.length_pos_iff.2 ho
          have e1 : ((out.length : Int) == 0) = false := by rw [beq_eq_false_iff_ne]; omega
          have hr : r ≠ 0 := by rcases hgo with h | h; exact absurd h ho; exact h
          have e2 : (r != 0) = true := by simpa using hr
          go_wp2_with (at_builtin; refine wpList_gappS (inj := byV) oneU8T byV_one w.heap.size _ [dgt (r.natAbs % 10)] rfl HLI2.out out b 0 out.length c rfl rfl HLA.out (by simp only [List.length_cons, List.length_nil]; omega) (by simp; omega) ?_; intro v2 w2 hown2 hg2; have HO2 := Lib.hid hown2; have HG2 := Lib.hid hg2; clear hown2 hg2)
          obtain ⟨b2, c2, rfl⟩ := HO2.out.addr (by simp)
          refine ⟨⟨dgt (r.natAbs % 10) :: out, r.tdiv 10, rfl, t2, ⟨_, _, rfl⟩, HO2.out, (by show DecAt _ _ _; rw [HT.out]; exact HN.out), (hb.alloc hsz _).grown HG2.out (by simp; omega) HLI2.out.own_ge⟩, ?_⟩
          show 21 - ([dgt (r.natAbs % 10)] ++ out).length < 21 - out.length
          simp only [List.length_append, List.length_cons, List.length_nil]
          omega
    · have ho : out ≠ [] := fun h => hgo (.inl h)
      have hr : r = 0 := by by_cases h : r = 0; exact h; exact absurd (.inr h) hgo
      subst hr
      have hpos : 0 < out.length := List.length_pos_iff.2 ho
      have e1 : ((out.length : Int) == 0) = false := by rw [beq_eq_false_iff_ne]; omega
      have HA := Lib.hid (HD.out.all ho)
      by_cases hn : n < 0
      · have HI := Lib.hid (itoa_neg hn)
        have HLA := Lib.hid ((HO.out.alloc (.cells #[byV 45] 5)).gl.cells)
        have HLI := Lib.hid (GO.lit2 byV 5 w.heap.size wr [(45 : UInt8)] rfl rfl rfl hsz (by simp))
        go_wp2_with (at_builtin; refine wpList_gappS (inj := byV) oneU8T byV_one w.heap.size _ [(45 : UInt8)] rfl HLI.out out b 0 out.length c rfl rfl HLA.out (by simp only [List.length_cons, List.length_nil]; omega) (by simp; omega) ?_; intro v2 w2 hown2 hg2; have RS := run_str oneU8T Tryz.underlying9 Tryz.underlying5 hown2 (by simp); have HG2 := Lib.hid hg2; clear hown2 hg2)
        go_ret
        refine ⟨?_, (hb.alloc hsz _).grown HG2.out (by simp; omega) HLI.out.own_ge⟩
        rw [HI.out, HA.out]
        rfl
      · have HI := Lib.hid (itoa_nat hn)
        have RS := run_str oneU8T Tryz.underlying9 Tryz.underlying5 HO.out ho
        go_wp2_with fail
        go_ret
        refine ⟨?_, hb⟩
        rw [HI.out, HA.out]
        rfl

end Go.Proofs.YtebahccjaieajaaGreatDoor
