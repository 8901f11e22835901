/- Contracts: what is saved, stored, by the reference. -/
import Derived.Test.YtfckfdaloamkdaaK74
namespace Go.Proofs.Ytfckfdaloamkdaa
set_option linter.unusedSimpArgs false
set_option linter.unusedVariables false
set_option maxRecDepth 100000
set_option maxHeartbeats 4000000
open Go.RowKit
attribute [local go_sem] run_store_float run_store_complex alloc_drewN setCell_drewN


set_option maxRecDepth 100000 in
set_option maxHeartbeats 8000000 in
theorem s_l07Store (p o : Nat) (s : ByteArray) (hs : s.size ≤ 9223372036854775807) (d : Int) (v : Value) (cs : List Nat) (w : World) (hpl : p < w.heap.size) (p0 : w.cell? ⟨p, o, none⟩ = some (.string s)) (p1 : w.cell? ⟨p, o + 1, none⟩ = some (.int .i64 d)) (p2 : w.cell? ⟨p, o + 2, none⟩ = some v) (hv : SB w v cs) (hok : savedOk s d cs = true) :
    Calls Try.prog 57 #[.pointer (some ⟨p, o, none⟩)] w fun e w' => e = .returned (.string ⟨(storeB s d cs).toArray⟩) ∧ Below w.heap.size w w' := by
  obtain ⟨ao, c, rfl, hlen⟩ := hv.slice
  have HV := Lib.hid hv
  obtain ⟨f1, f2, f3, f4⟩ := savedOk_facts hok
  have HP := Lib.hid p2
  clear hv hok
  have U0 := Lib.hid (byV_u8 (s.size : Int))
  have U1 := Lib.hid (byV_u8 (cs.length : Int))
  have hcv := fun (W : World) (C : Array Value) (n c : Nat) => Lib.run_convert_bytes_const (P := Try.prog) W 48 5 C n c Try.underlying48 Try.underlying5
  have hcs := fun (W : World) (s : ByteArray) => Lib.run_convert_string_bytes (P := Try.prog) W 9 48 5 s Try.underlying9 Try.underlying48 Try.underlying5
  obtain ⟨i0, hi0, hz0, hy0, hx0⟩ := oneU8S.info
  have HI := Lib.hid (And.intro hi0 (And.intro hz0 (And.intro hy0 hx0)))
  clear hi0 hz0 hy0 hx0
  go_enter Try.func57, Try.ntmps57
  go_wp2_with (first
    | (at_builtin; refine wpList_append_grows (P := Try.prog) _ rfl _ _ 48 rfl 5 i0 (.int .u8 0) 1 1 Try.underlying48 HI.out.1 HI.out.2.1 HI.out.2.2.1 HI.out.2.2.2 rfl (by decide) (some ⟨w.heap.size, 0, none⟩) 4 4 (([83, 69, 82, 49] : List UInt8).map byV) rfl (by simp) rfl (by intro b hb j u hu; injection hb with hb; subst hb; rw [Addr.add_lit, Nat.zero_add]; refine (cell_lit2 w _ _ _ _ j).trans ?_; rw [← hu]; match j with | 0 => rfl | 1 => rfl | 2 => rfl | 3 => rfl | j + 4 => rfl) ⟨w.heap.size + 1, 0, none⟩ 1 1 [byV (u8 s.size)] rfl rfl (by intro j u hu; cases j with | zero => (simp only [List.getElem?_cons_zero, Option.some.injEq] at hu; subst hu; rw [U0.out, Addr.add_lit]; simp; omega) | succ j => simp at hu) (by simp [byV_one]) (by omega) (by have : maxLen = 9223372036854775807 := rfl; omega) (by omega) ?_; intro v2 w2 hown2 hg2; have HO2 := Lib.hid (show GO byV 5 w.heap.size w2 v2 [83, 69, 82, 49, u8 s.size] from GO.down (show GO byV 5 _ w2 v2 [83, 69, 82, 49, u8 s.size] from hown2) (by simp; omega)); have hbw := (((Below.refl w.heap.size w).alloc (Nat.le_refl _) (.cells #[.int .u8 83, .int .u8 69, .int .u8 82, .int .u8 49] 5 (4, 5))).alloc (by simp) (.cells #[.int .u8 (s.size : Int)] 5)).grown hg2 (by simp; omega) (by simp); clear hown2 hg2 hcv; have hz2 := hbw.size; obtain ⟨hcb, hfb⟩ := bcellN (N := w.heap.size) hbw (Nat.le_refl _))
    | (at_builtin; refine wpList_gapp2 (inj := byV) oneU8S byV_one w.heap.size v2 [83, 69, 82, 49, u8 s.size] rfl (GO.keep HO2.out (bytesWorld_below (Below.refl w2.heap.size w2) 5 s (Nat.le_refl _))) s.data.toList w2.heap.size s.size _ (by simp) rfl (bytesWorld_get w2 5 s) (by simp; omega) (by rw [Lib.bytesWorld_size]; omega) ?_; intro v3 w3 hown3 hg3; have HO3 := Lib.hid hown3; have hb3 := (bytesWorld_below (Below.refl w.heap.size w2) 5 s hz2).grown hg3 (by rw [Lib.bytesWorld_size]; omega) HO2.out.own_ge; clear hown3 hg3 hcs hcb hfb; replace hbw := hbw.trans hb3; clear hb3; have hz3 := hbw.size; obtain ⟨hcb, hfb⟩ := bcellN (N := w.heap.size) hbw (Nat.le_refl _)))
  refine (s_l07Word w.heap.size _ _ (d + 1000000) (by omega) (by omega) _ HO3.out hz3 (by simp; omega)).mono ?_
  rintro z w4 ⟨v4, rfl, hown4, hb4⟩
  have HO4 := Lib.hid hown4
  replace hbw := hbw.trans hb4
  clear hown4 hb4 hcb hfb
  have hz4 := hbw.size
  obtain ⟨hcb, hfb⟩ := bcellN (N := w.heap.size) hbw (Nat.le_refl _)
  have HX := Lib.hid (show ([83, 69, 82, 49, u8 s.size] ++ s.data.toList ++ leB (d + 1000000) 4) ++ [u8 cs.length] = headB s d cs from rfl)
  have HL4 := Lib.hid (show ([83, 69, 82, 49, u8 s.size] ++ s.data.toList ++ leB (d + 1000000) 4).length + 1 < 1099511627776 by simp [leB_length]; omega)
  go_wp2_with (at_builtin; refine wpList_gapp (inj := byV) oneU8S byV_one w.heap.size v4 _ rfl (GO.alloc HO4.out _) [u8 cs.length] _ 1 rfl rfl (by intro i u hu; cases i with | zero => (simp only [List.getElem?_cons_zero, Option.some.injEq] at hu; subst hu; rw [U1.out]; simp; omega) | succ i => simp at hu) HL4.out (by simp; omega) ?_; intro v5 w5 hown5 hg5; have HO5 := Lib.hid (show GO byV 5 w.heap.size w5 v5 (headB s d cs) from HX.out ▸ hown5); have hb5 := ((Below.refl w.heap.size w4).alloc hz4 (.cells #[.int .u8 (cs.length : Int)] 5)).grown hg5 (by simp; omega) HO4.out.own_ge; clear hown5 hg5 hcb hfb; replace hbw := hbw.trans hb5; clear hb5; have hz5 := hbw.size; obtain ⟨hcb, hfb⟩ := bcellN (N := w.heap.size) hbw (Nat.le_refl _))
  clear hcb hfb hz2 hz3 hz4 HO2 HO3 HO4 p0 p1 p2
  have HLH := Lib.hid (show (headB s d cs).length = 10 + s.size by simp [headB, leB_length]; omega)
  have HG := Lib.hid (SB.getX HV.out rfl)
  go_loopw [3, 44] (fun b i wr => ∃ k : Nat, k ≤ cs.length ∧ i = .int .i64 k ∧ Hid (GO byV 5 w.heap.size wr b (headB s d cs ++ numsB cs k)) ∧ Below w.heap.size w wr) (fun _ i _ => cs.length - (intOf i).toNat)
  case atStart => exact ⟨0, Nat.zero_le _, rfl, by simpa [numsB] using HO5, hbw⟩
  case round =>
    clear hbw hz5 HO5
    obtain ⟨k, hk, rfl, HO, hbw⟩ := hrel
    have hz := hbw.size
    by_cases hlt : k < cs.length
    · obtain ⟨ao', c', hv', -, -, hget⟩ := HG.out
      simp only [Value.slice.injEq] at hv'
      obtain ⟨rfl, -, rfl⟩ := hv'
      obtain ⟨b1, o1, r, rfl, hbl, hc, hr, hcr⟩ := hget k hlt
      have hc' := (hbw.cell (p := ⟨b1, o1 + k, none⟩) hbl).trans hc
      have hp2 := (hbw.cell (p := ⟨p, o + 2, none⟩) hpl).trans HP.out
      have HCR := Lib.hid hcr
      have hcl := cn_lt hr
      clear hc hget hcr
      have HN := Lib.hid (show (headB s d cs ++ numsB cs k).length < 1000000000 by rw [List.length_append, HLH.out, numsB_length]; omega)
      have HNX := Lib.hid (show (headB s d cs ++ numsB cs k) ++ leB (cn .f32 r : Nat) 4 = headB s d cs ++ numsB cs (k + 1) by rw [HCR.out, List.append_assoc]; rfl)
      go_wp2_with fail
      refine (s_l01Bits r hr _).mono ?_
      rintro z w6 ⟨rfl, n6, rfl⟩
      go_wp2_with fail
      refine (s_l07Word w.heap.size _ _ ((cn .f32 r : Nat) : Int) (by omega) (by omega) _ (by first | exact HO.out | exact GO.drewN HO.out _) (by first | exact hz | (simp only [World.heap_drewN]; exact hz)) HN.out).mono ?_
      rintro z w7 ⟨v7, rfl, hown7, hb7⟩
      have HO7 := Lib.hid hown7
      have hbw7 := Below.trans (show Below w.heap.size w _ from by first | exact hbw | exact below_drewN hbw _ | exact Below.drew hbw) hb7
      clear hown7 hb7
      go_wp2_with fail
      exact ⟨⟨k + 1, by omega, by go_num, HNX.out ▸ HO7.out, hbw7⟩, by simp [intOf]; omega⟩
    · have hkn : k = cs.length := by omega
      subst hkn
      have HN := Lib.hid (show (bodyB s d cs).length < 1000000000 by rw [bodyB_length]; omega)
      have hcv := run_str oneU8S Try.underlying9 Try.underlying5 HO.out (by intro e; have := congrArg List.length e; simp [HLH.out] at this)
      go_wp2_with fail
      refine (s_l01Check ⟨(headB s d cs ++ numsB cs cs.length).toArray⟩ (by have := HN.out; show (headB s d cs ++ numsB cs cs.length).toArray.size ≤ _; simp only [bodyB] at this; rw [List.size_toArray]; omega) 0 (by omega) (by omega) _).mono ?_
      rintro z w6 ⟨rfl, n6, rfl⟩
      clear hcv
      have hck := ckL_bound (n := 0) (by omega) (by omega) (bodyB s d cs)
      rw [show ckL 0 (ByteArray.mk (headB s d cs ++ numsB cs cs.length).toArray).data.toList = ckL 0 (bodyB s d cs) from rfl]
      have HB2 := Lib.hid (leB2 (ckL 0 (bodyB s d cs)))
      have V0 := Lib.hid (byV_u8 (ckL 0 (bodyB s d cs)))
      have V1 := Lib.hid (byV_u8 (ckL 0 (bodyB s d cs) / 256))
      have HST := Lib.hid (show bodyB s d cs ++ leB (ckL 0 (bodyB s d cs)) 2 = storeB s d cs from rfl)
      generalize ckL 0 (bodyB s d cs) = q at *
      have hcw := fun (W : World) (v : Value) (h : GO byV 5 w.heap.size W v (bodyB s d cs ++ [u8 q, u8 (q / 256)])) => run_str oneU8S Try.underlying9 Try.underlying5 h (by simp)
      have HCW := Lib.hid hcw
      clear hcw
      go_wp2_with (at_builtin; refine wpList_gapp (inj := byV) oneU8S byV_one w.heap.size u3 (bodyB s d cs) rfl (by first | exact GO.alloc HO.out _ | exact GO.drewN (GO.alloc HO.out _) _) [u8 q, u8 (q / 256)] _ 2 rfl rfl (by intro i u hu; match i with | 0 => (simp only [List.getElem?_cons_zero, Option.some.injEq] at hu; subst hu; rw [V0.out]; simp) | 1 => (simp only [List.getElem?_cons_zero, List.getElem?_cons_succ, Option.some.injEq] at hu; subst hu; rw [V1.out]; simp; omega) | j + 2 => simp at hu) (by have := HN.out; simp; omega) (by simp; omega) ?_; intro v7 w7 hown7 hg7; have hcw := HCW.out _ _ hown7; have hbw7 := (below_drewN (Below.alloc hbw (by omega) (.cells #[.int .u8 (q % 256), .int .u8 (q / 256)] 5)) n6).grown hg7 (by simp; omega) HO.out.own_ge)
      go_ret
      refine ⟨?_, hbw7⟩
      rw [← HST.out, HB2.out]
      rfl

theorem s_StoreSaved (s : ByteArray) (hs : s.size ≤ 9223372036854775807) (d : Int) (v : Value) (cs : List Nat) (w : World) (hv : SB w v cs) :
    Calls Try.prog 20 #[.agg #[.string s, .int .i64 d, v]] w fun e w' => e = .returned (.tuple #[.string (storeQ s d cs (savedOk s d cs)).1, .bool (storeQ s d cs (savedOk s d cs)).2]) ∧ Below w.heap.size w w' := by
  obtain ⟨ao, c, rfl, hlen⟩ := hv.slice
  have HV := Lib.hid hv
  clear hv
  cases hok : savedOk s d cs
  all_goals
    have HE := Lib.hid hok
    clear hok
    go_enter Try.func20, Try.ntmps20
    go_wp2_with fail
    refine (s_l07Saved _ s hs d _ cs _ (CA.new _ _ _ _ rfl rfl) (SB.sl (HV.out.keep (by (repeat (first | with_reducible exact Below.refl _ _ | with_reducible assumption | with_reducible refine below_drewN ?_ _ | with_reducible refine Below.drew ?_ | with_reducible refine Below.alloc ?_ (by first | omega | (simp; omega) | (simp; done) | (simp at *; omega)) _ | with_reducible refine Below.setCell ?_ (by first | omega | (simp; omega) | (simp; done) | (simp at *; omega)) _ | refine Below.trans ?_ (Below.mono (by with_reducible assumption) (by first | omega | (simp; omega) | (simp; done) | (simp at *; omega))))))))).mono ?_
    rintro z w1 ⟨rfl, n1, rfl⟩
    rw [HE.out]
    go_wp2_with fail
  · go_ret2
    exact ⟨rfl, by (repeat (first | with_reducible exact Below.refl _ _ | with_reducible assumption | with_reducible refine below_drewN ?_ _ | with_reducible refine Below.drew ?_ | with_reducible refine Below.alloc ?_ (by first | omega | (simp; omega) | (simp; done) | (simp at *; omega)) _ | with_reducible refine Below.setCell ?_ (by first | omega | (simp; omega) | (simp; done) | (simp at *; omega)) _ | refine Below.trans ?_ (Below.mono (by with_reducible assumption) (by first | omega | (simp; omega) | (simp; done) | (simp at *; omega)))))⟩
  · refine (s_l07Store w.heap.size 0 s hs d _ cs _ (by simp) (by exact (CA.new w [.string s, .int .i64 d, .slice ao cs.length c] 34 (0, 0) rfl rfl).2 0 _ rfl) (by exact (CA.new w [.string s, .int .i64 d, .slice ao cs.length c] 34 (0, 0) rfl rfl).2 1 _ rfl) (by exact (CA.new w [.string s, .int .i64 d, .slice ao cs.length c] 34 (0, 0) rfl rfl).2 2 _ rfl) (HV.out.keep (by (repeat (first | with_reducible exact Below.refl _ _ | with_reducible assumption | with_reducible refine below_drewN ?_ _ | with_reducible refine Below.drew ?_ | with_reducible refine Below.alloc ?_ (by first | omega | (simp; omega) | (simp; done) | (simp at *; omega)) _ | with_reducible refine Below.setCell ?_ (by first | omega | (simp; omega) | (simp; done) | (simp at *; omega)) _ | refine Below.trans ?_ (Below.mono (by with_reducible assumption) (by first | omega | (simp; omega) | (simp; done) | (simp at *; omega))))))) HE.out).mono ?_
    rintro z w2 ⟨rfl, hb2⟩
    go_wp2_with fail
    go_ret2
    exact ⟨rfl, by (repeat (first | with_reducible exact Below.refl _ _ | with_reducible assumption | with_reducible refine below_drewN ?_ _ | with_reducible refine Below.drew ?_ | with_reducible refine Below.alloc ?_ (by first | omega | (simp; omega) | (simp; done) | (simp at *; omega)) _ | with_reducible refine Below.setCell ?_ (by first | omega | (simp; omega) | (simp; done) | (simp at *; omega)) _ | refine Below.trans ?_ (Below.mono (by with_reducible assumption) (by first | omega | (simp; omega) | (simp; done) | (simp at *; omega)))))⟩

end Go.Proofs.Ytfckfdaloamkdaa
