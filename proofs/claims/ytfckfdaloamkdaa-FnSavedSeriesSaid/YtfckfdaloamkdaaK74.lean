/- Contracts: what is saved, stored. -/
import Derived.Test.YtfckfdaloamkdaaK73
import Derived.Test.YtfckfdaloamkdaaBk2
import Derived.Test.YtfckfdaloamkdaaK32
import Derived.Lib.SlBytesConst
import Derived.ArgAppend
import Derived.Deep.RegionHeld3
namespace Go.Proofs.Ytfckfdaloamkdaa
set_option linter.unusedSimpArgs false
set_option linter.unusedVariables false
set_option maxRecDepth 100000
set_option maxHeartbeats 4000000
open Go.RowKit
attribute [local go_sem] run_store_float run_store_complex alloc_drewN setCell_drewN

theorem BK.low {w w' : World} {p lo : Nat} {vs : List Value} (h : BK w p vs) (hb : Below lo w w') (hp : p < lo) : BK w' p vs :=
  ⟨Nat.lt_of_lt_of_le h.lt hb.size, fun i hi => (hb.cell (p := ⟨p, i, none⟩) hp).trans (h.cells i hi), fun i => (hb.frozen (p := ⟨p, i, none⟩) hp).trans (h.fro i)⟩
theorem BK.newAt3 {n : Nat} (w : World) (vs : List Value) (T : TypeId) (hn : n = w.heap.size) : BK (w.alloc (.cells vs.toArray T)) n vs := by subst hn; exact BK.new w vs T
theorem savedOk_facts {s : ByteArray} {d : Int} {cs : List Nat} (h : savedOk s d cs = true) : s.size ≤ 8 ∧ -1000000 ≤ d ∧ d ≤ 1000000 ∧ cs.length ≤ 96 := by
  simp only [savedOk, Bool.and_eq_true, nameB, decide_eq_true_eq, series] at h
  have h2 := (inB_iff _ _ _).1 h.1.2
  omega
theorem GO.lit {α : Type} (inj : α → Value) (T lo : Nat) (w : World) (xs : List α) {cells : Array Value} (hc : cells = (xs.map inj).toArray) {n m : Nat} (hn : n = w.heap.size) (hm : m = xs.length) (hb : lo ≤ w.heap.size) (hl : xs.length < 1000000000) : GO inj T lo (w.alloc (.cells cells T)) (.slice (some ⟨n, 0, none⟩) m m) xs := by
  subst hn hc hm
  have := World.ownsRow_lit (e := T) (size := 1) w (xs.map inj).toArray xs.length hb (by have : maxLen = 9223372036854775807 := rfl; omega) (by simp)
  simpa [GO] using this
theorem byV_mem {ys : List UInt8} {w : World} {b : Nat} {cells : List Value} (h : cells = ys.map byV) (hb : BK w b cells) : ∀ i u, ys[i]? = some u → w.cell? ⟨b, i, none⟩ = some (byV u) := by
  subst h
  intro i u hu
  have hi : i < ys.length := (List.getElem?_eq_some_iff.1 hu).1
  rw [hb.cells i (by simpa using hi), List.getElem?_map, hu]
  rfl

set_option maxRecDepth 100000 in
set_option maxHeartbeats 8000000 in
theorem i_StoreSaved (s : ByteArray) (hs : s.size ≤ 9223372036854775807) (d : Int) (v : Value) (cs : List Nat) (w : World) (hv : SB w v cs) :
    Calls Try.prog 22 #[.agg #[.string s, .int .i64 d, v]] w fun e w' => e = .returned (.tuple #[.string (storeQ s d cs (savedOk s d cs)).1, .bool (storeQ s d cs (savedOk s d cs)).2]) ∧ Below w.heap.size w w' := by
  obtain ⟨ao, c, rfl, hlen⟩ := hv.slice
  have HV := Lib.hid hv
  clear hv
  cases hok : savedOk s d cs
  · have HE := Lib.hid hok
    clear hok
    go_enter Try.func22, Try.ntmps22
    go_wp2_with fail
    refine (i_ValidSaved s hs d _ cs _ (SB.sl (HV.out.keep (by (repeat (first | with_reducible exact Below.refl _ _ | with_reducible assumption | with_reducible refine below_drewN ?_ _ | with_reducible refine Below.drew ?_ | with_reducible refine Below.alloc ?_ (by first | omega | (simp; omega) | (simp; done) | (simp at *; omega)) _ | with_reducible refine Below.setCell ?_ (by first | omega | (simp; omega) | (simp; done) | (simp at *; omega)) _ | refine Below.trans ?_ (Below.mono (by with_reducible assumption) (by first | omega | (simp; omega) | (simp; done) | (simp at *; omega))))))))).mono ?_
    rintro z w1 ⟨rfl, hb1⟩
    rw [HE.out]
    go_wp2_with fail
    go_ret2
    exact ⟨rfl, by (repeat (first | with_reducible exact Below.refl _ _ | with_reducible assumption | with_reducible refine below_drewN ?_ _ | with_reducible refine Below.drew ?_ | with_reducible refine Below.alloc ?_ (by first | omega | (simp; omega) | (simp; done) | (simp at *; omega)) _ | with_reducible refine Below.setCell ?_ (by first | omega | (simp; omega) | (simp; done) | (simp at *; omega)) _ | refine Below.trans ?_ (Below.mono (by with_reducible assumption) (by first | omega | (simp; omega) | (simp; done) | (simp at *; omega)))))⟩
  · obtain ⟨f1, f2, f3, f4⟩ := savedOk_facts hok
    have HE := Lib.hid hok
    clear hok
    have U0 := Lib.hid (byV_u8 (s.size : Int))
    have JD := Lib.hid (show IntKind.i64.wrap (d + 1000000) = d + 1000000 by rw [IntKind.wrap_i64]; omega)
    have U1 := Lib.hid (byV_u8 (cs.length : Int))
    have hcv := fun (W : World) (C : Array Value) (n c : Nat) => Lib.run_convert_bytes_const (P := Try.prog) W 48 5 C n c Try.underlying48 Try.underlying5
    obtain ⟨i0, hi0, hz0, hy0, hx0⟩ := oneU8S.info
    have HI := Lib.hid (And.intro hi0 (And.intro hz0 (And.intro hy0 hx0)))
    clear hi0 hz0 hy0 hx0
    go_enter Try.func22, Try.ntmps22
    go_wp2_with fail
    refine (i_ValidSaved s hs d _ cs _ (SB.sl (HV.out.keep (by (repeat (first | with_reducible exact Below.refl _ _ | with_reducible assumption | with_reducible refine below_drewN ?_ _ | with_reducible refine Below.drew ?_ | with_reducible refine Below.alloc ?_ (by first | omega | (simp; omega) | (simp; done) | (simp at *; omega)) _ | with_reducible refine Below.setCell ?_ (by first | omega | (simp; omega) | (simp; done) | (simp at *; omega)) _ | refine Below.trans ?_ (Below.mono (by with_reducible assumption) (by first | omega | (simp; omega) | (simp; done) | (simp at *; omega))))))))).mono ?_
    rintro z w1 ⟨rfl, hb1⟩
    rw [HE.out]
    have hz1 := hb1.size
    simp only [World.size_alloc] at hz1
    have HA := Lib.hid (show BK w1 w.heap.size [.string s, .int .i64 d, .slice ao cs.length c] from BK.keep (BK.newAt3 (n := w.heap.size) _ _ _ rfl) hb1)
    have hbw : Below w.heap.size w w1 := (by (repeat (first | with_reducible exact Below.refl _ _ | with_reducible assumption | with_reducible refine below_drewN ?_ _ | with_reducible refine Below.drew ?_ | with_reducible refine Below.alloc ?_ (by first | omega | (simp; omega) | (simp; done) | (simp at *; omega)) _ | with_reducible refine Below.setCell ?_ (by first | omega | (simp; omega) | (simp; done) | (simp at *; omega)) _ | refine Below.trans ?_ (Below.mono (by with_reducible assumption) (by first | omega | (simp; omega) | (simp; done) | (simp at *; omega))))))
    clear hb1
    have hca := HA.out.cells
    have hA1 := HA.out.lt
    go_wp2_with (at_builtin; refine wpList_append_grows (P := Try.prog) _ rfl _ _ 48 rfl 5 i0 (.int .u8 0) 1 1 Try.underlying48 HI.out.1 HI.out.2.1 HI.out.2.2.1 HI.out.2.2.2 rfl (by decide) (some ⟨w1.heap.size, 0, none⟩) 4 4 (([83, 69, 82, 49] : List UInt8).map byV) rfl (by simp) rfl (by intro b hb j u hu; injection hb with hb; subst hb; rw [Addr.add_lit, Nat.zero_add]; refine (cell_lit2 w1 _ _ _ _ j).trans ?_; rw [← hu]; match j with | 0 => rfl | 1 => rfl | 2 => rfl | 3 => rfl | j + 4 => rfl) ⟨w1.heap.size + 1, 0, none⟩ 1 1 [byV (u8 s.size)] rfl rfl (by intro j u hu; cases j with | zero => (simp only [List.getElem?_cons_zero, Option.some.injEq] at hu; subst hu; rw [U0.out, Addr.add_lit]; simp; omega) | succ j => simp at hu) (by simp [byV_one]) (by omega) (by have : maxLen = 9223372036854775807 := rfl; omega) (by omega) ?_; intro v2 w2 hown2 hg2; have HO2 := Lib.hid (show GO byV 5 (w.heap.size + 1) w2 v2 [83, 69, 82, 49, u8 s.size] from GO.down (show GO byV 5 _ w2 v2 [83, 69, 82, 49, u8 s.size] from hown2) (by simp; omega)); have hb2 := (((Below.refl (w.heap.size + 1) w1).alloc hz1 (.cells #[.int .u8 83, .int .u8 69, .int .u8 82, .int .u8 49] 5 (4, 5))).alloc (by simp; omega) (.cells #[.int .u8 (s.size : Int)] 5)).grown hg2 (by simp; omega) (by simp); clear hown2 hg2 hca hcv; replace HA := Lib.hid (BK.low HA.out hb2 (by omega)); replace hbw := hbw.trans (hb2.mono (by omega)); have hz2 := Nat.le_trans hz1 hb2.size; clear hb2; have hca := HA.out.cells)
    refine wp_region_held_drew (S := (fun W => W.cell? ⟨w.heap.size, 0, none⟩ = some (.string s) ∧ W.cell? ⟨w.heap.size, 1, none⟩ = some (.int .i64 d))) (by kernel_rfl) (by first | exact ⟨HA.out.cells 0 (by simp), HA.out.cells 1 (by simp)⟩ | (simp; done) | (simp [*]; done)) (fun hH0 => ?_)
    refine wpAnyH_take (i := 0) (oi := { dst := some 20, op := Op.move (Operand.tmp 4), type := 48, pos := "l07_shapes.go:542", after := #[], guard := none }) (v := ?_) rfl (by kernel_rfl) (by kernel_rfl) (by kernel_rfl) (fun _ _ _ h => h) (Or.inl ⟨by rfl, ?_⟩) hH0 ?_
    rotate_left
    · (intro w hSw; (try dsimp only at hSw); go_simp; try with_reducible rfl)
    (try simp only [Act.put, List.setIfInBounds_toArray, List.set_cons_zero, List.set_cons_succ])
    refine wpAnyH_take (i := 1) (oi := { dst := some 21, op := Op.fieldAddr 34 (Operand.tmp 1) 0, type := 0, pos := "l07_shapes.go:542", after := #[], guard := none }) (v := ?_) rfl (by kernel_rfl) (by kernel_rfl) (by kernel_rfl) (fun _ _ _ h => h) (Or.inl ⟨by rfl, ?_⟩) hH0 ?_
    rotate_left
    · (intro w hSw; (try dsimp only at hSw); go_simp; try with_reducible rfl)
    (try simp only [Act.put, List.setIfInBounds_toArray, List.set_cons_zero, List.set_cons_succ])
    refine wpAnyH_take (i := 2) (oi := { dst := some 22, op := Op.load 9 (Operand.tmp 21), type := 9, pos := "l07_shapes.go:542", after := #[{ on := 1, ground := Ground.data }], guard := none }) (v := ?_) rfl (by kernel_rfl) (by kernel_rfl) (by kernel_rfl) (fun _ _ _ h => h) (Or.inl ⟨by rfl, ?_⟩) hH0 ?_
    rotate_left
    · (intro w hSw; (try dsimp only at hSw); go_simp; try with_reducible rfl)
    (try simp only [Act.put, List.setIfInBounds_toArray, List.set_cons_zero, List.set_cons_succ])
    refine wpAnyH_take (i := 4) (oi := { dst := some 24, op := Op.fieldAddr 34 (Operand.tmp 1) 1, type := 0, pos := "l07_shapes.go:542", after := #[], guard := none }) (v := ?_) rfl (by kernel_rfl) (by kernel_rfl) (by kernel_rfl) (fun _ _ _ h => h) (Or.inl ⟨by rfl, ?_⟩) hH0 ?_
    rotate_left
    · (intro w hSw; (try dsimp only at hSw); go_simp; try with_reducible rfl)
    (try simp only [Act.put, List.setIfInBounds_toArray, List.set_cons_zero, List.set_cons_succ])
    refine wpAnyH_take (i := 5) (oi := { dst := some 25, op := Op.load 2 (Operand.tmp 24), type := 2, pos := "l07_shapes.go:542", after := #[{ on := 4, ground := Ground.data }], guard := none }) (v := ?_) rfl (by kernel_rfl) (by kernel_rfl) (by kernel_rfl) (fun _ _ _ h => h) (Or.inl ⟨by rfl, ?_⟩) hH0 ?_
    rotate_left
    · (intro w hSw; (try dsimp only at hSw); go_simp; try with_reducible rfl)
    (try simp only [Act.put, List.setIfInBounds_toArray, List.set_cons_zero, List.set_cons_succ])
    refine wpAnyH_take (i := 6) (oi := { dst := some 26, op := Op.binOp BinOp.add 2 (Operand.tmp 25) (Operand.const (Value.int IntKind.i64 1000000)) 2, type := 2, pos := "l07_shapes.go:542", after := #[{ on := 5, ground := Ground.data }], guard := none }) (v := ?_) rfl (by kernel_rfl) (by kernel_rfl) (by kernel_rfl) (fun _ _ _ h => h) (Or.inl ⟨by rfl, ?_⟩) hH0 ?_
    rotate_left
    · (intro w hSw; (try dsimp only at hSw); go_simp; try with_reducible rfl)
    (try simp only [Act.put, List.setIfInBounds_toArray, List.set_cons_zero, List.set_cons_succ])
    refine wpAnyH_ready (rs := [3]) (by kernel_rfl) (by simp) (AllReadyH.cons (o := { dst := some 23, op := Op.call { callee := Callee.builtin Builtin.append, args := #[Operand.tmp 20, Operand.tmp 22], argTypes := #[48, 9] }, type := 48, pos := "l07_shapes.go:542", after := #[{ on := 0, ground := Ground.data }, { on := 2, ground := Ground.data }], guard := none }) rfl (fun K hK => ?e1) AllReadyH.nil)
    rw [if_pos (by simp [Region.wanted])]
    refine wp_append_str oneU8S Try.underlying9 (.tmp 20) (.tmp 22) rfl (w.heap.size + 1) v2 [83, 69, 82, 49, u8 s.size] rfl (by first | exact HO2.out | exact GO.drew HO2.out | exact GO.drewN HO2.out _) s rfl (by simp; omega) (by (try simp only [World.size_drew, World.heap_drewN]); omega) ?_
    intro v3 w3 hown3 hg3
    have hb3 := (Below.drew (Below.refl (w.heap.size + 1) w2)).grown hg3 (by simp; omega) HO2.out.own_ge
    have HO3 := Lib.hid hown3
    clear hown3 hg3 hca
    replace HA := Lib.hid (BK.low HA.out hb3 (by omega))
    replace hbw := hbw.trans (hb3.mono (by omega))
    have hz3 := Nat.le_trans hz2 hb3.size
    clear hb3
    refine hK.out _ _ (by first | exact ⟨HA.out.cells 0 (by simp), HA.out.cells 1 (by simp)⟩ | (simp; done) | (simp [*]; done)) (fun hH1 => ?_)
    clear hK K hH0
    (try simp only [Act.put, List.setIfInBounds_toArray, List.set_cons_zero, List.set_cons_succ])
    refine wpAnyH_ready (rs := [7]) (by kernel_rfl) (by simp) (AllReadyH.cons (o := { dst := some 27, op := Op.call { callee := Callee.value (Operand.func 59), args := #[Operand.tmp 23, Operand.tmp 26, Operand.const (Value.int IntKind.i64 4)], argTypes := #[48, 2, 3] }, type := 48, pos := "l07_shapes.go:542", after := #[{ on := 3, ground := Ground.data }, { on := 6, ground := Ground.data }, { on := 3, ground := Ground.chain }], guard := none }) rfl (fun K hK => ?e2) AllReadyH.nil)
    go_simp
    rw [JD.out]
    go_at_call 59
    refine (i_bytesOf (w.heap.size + 1) _ _ (d + 1000000) 4 (by omega) (by omega) (by omega) _ (by first | exact HO3.out | exact GO.drew HO3.out | exact GO.drewN HO3.out _) hz3 (by simp; omega)).mono ?_
    rintro z w4 ⟨v4, rfl, hown4, hb4⟩
    have HO4 := Lib.hid hown4
    clear hown4
    replace HA := Lib.hid (BK.low HA.out hb4 (by omega))
    replace hbw := hbw.trans (hb4.mono (by omega))
    have hz4 := Nat.le_trans hz3 hb4.size
    clear hb4
    refine hK.out _ _ (by first | exact ⟨HA.out.cells 0 (by simp), HA.out.cells 1 (by simp)⟩ | (simp; done) | (simp [*]; done)) (fun hH2 => ?_)
    clear hK K hH1
    (try simp only [Act.put, List.setIfInBounds_toArray, List.set_cons_zero, List.set_cons_succ])
    refine wpAnyH_take (i := 8) (oi := { dst := some 4, op := Op.assign (Operand.tmp 27), type := 48, pos := "l07_shapes.go:542", after := #[{ on := 7, ground := Ground.data }, { on := 7, ground := Ground.chain }, { on := 0, ground := Ground.phase }, { on := 1, ground := Ground.phase }, { on := 2, ground := Ground.phase }, { on := 3, ground := Ground.phase }, { on := 4, ground := Ground.phase }, { on := 5, ground := Ground.phase }, { on := 6, ground := Ground.phase }, { on := 7, ground := Ground.phase }], guard := none }) (v := ?_) rfl (by kernel_rfl) (by kernel_rfl) (by kernel_rfl) (fun _ _ _ h => h) (Or.inl ⟨by rfl, ?_⟩) hH2 ?_
    rotate_left
    · (intro w hSw; (try dsimp only at hSw); go_simp; try with_reducible rfl)
    (try simp only [Act.put, List.setIfInBounds_toArray, List.set_cons_zero, List.set_cons_succ])
    refine wpAnyH_done (by kernel_rfl) ?_ _
    clear hH2
    have hca := HA.out.cells
    have HX := Lib.hid (show ([83, 69, 82, 49, u8 s.size] ++ s.data.toList ++ leB (d + 1000000) 4) ++ [u8 cs.length] = headB s d cs from rfl)
    have HL4 := Lib.hid (show ([83, 69, 82, 49, u8 s.size] ++ s.data.toList ++ leB (d + 1000000) 4).length + 1 < 1099511627776 by simp [leB_length]; omega)
    have hA4 := HA.out.lt
    go_wp2_with (at_builtin; refine wpList_gapp (inj := byV) oneU8S byV_one (w.heap.size + 1) v4 _ rfl (GO.alloc HO4.out _) [u8 cs.length] _ 1 rfl rfl (by intro i u hu; cases i with | zero => (simp only [List.getElem?_cons_zero, Option.some.injEq] at hu; subst hu; rw [U1.out]; simp; omega) | succ i => simp at hu) HL4.out (by simp; omega) ?_; intro v5 w5 hown5 hg5; have HO5 := Lib.hid (show GO byV 5 (w.heap.size + 1) w5 v5 (headB s d cs) from HX.out ▸ hown5); have hb5 := ((Below.refl (w.heap.size + 1) w4).alloc hz4 (.cells #[.int .u8 (cs.length : Int)] 5)).grown hg5 (by simp; omega) HO4.out.own_ge; clear hown5 hg5 hca; replace HA := Lib.hid (BK.low HA.out hb5 (by omega)); replace hbw := hbw.trans (hb5.mono (by omega)); have hz5 := Nat.le_trans hz4 hb5.size; clear hb5; have hca := HA.out.cells)
    clear hca HA hA1 hA4 hz1 hz2 hz3 hz4 HO2 HO3 HO4
    have HLH := Lib.hid (show (headB s d cs).length = 10 + s.size by simp [headB, leB_length]; omega)
    have HG := Lib.hid (SB.getX HV.out rfl)
    go_loopw [4, 38] (fun b i wr => ∃ k : Nat, k ≤ cs.length ∧ i = .int .i64 k ∧ Hid (GO byV 5 (w.heap.size + 1) wr b (headB s d cs ++ numsB cs k)) ∧ Below w.heap.size w wr ∧ w.heap.size + 1 ≤ wr.heap.size) (fun _ i _ => cs.length - (intOf i).toNat)
    case atStart => exact ⟨0, Nat.zero_le _, rfl, by simpa [numsB] using HO5, hbw, hz5⟩
    case round =>
      clear hbw hz5 HO5
      obtain ⟨k, hk, rfl, HO, hbw, hz⟩ := hrel
      by_cases hlt : k < cs.length
      · obtain ⟨ao', c', hv', -, -, hget⟩ := HG.out
        simp only [Value.slice.injEq] at hv'
        obtain ⟨rfl, -, rfl⟩ := hv'
        obtain ⟨b1, o1, r, rfl, hbl, hc, hr, hcr⟩ := hget k hlt
        have hc' := (hbw.cell (p := ⟨b1, o1 + k, none⟩) hbl).trans hc
        have HCR := Lib.hid hcr
        have hcl := cn_lt hr
        clear hc hget hcr
        have HN := Lib.hid (show (headB s d cs ++ numsB cs k).length < 1000000000 by rw [List.length_append, HLH.out, numsB_length]; omega)
        have HNX := Lib.hid (show (headB s d cs ++ numsB cs k) ++ leB (cn .f32 r : Nat) 4 = headB s d cs ++ numsB cs (k + 1) by rw [HCR.out, List.append_assoc]; rfl)
        go_wp2_with fail
        refine (i_BitsOf r hr _).mono ?_
        rintro z w6 ⟨rfl, n6, rfl⟩
        go_wp2_with fail
        refine (i_bytesOf (w.heap.size + 1) u4 _ ((cn .f32 r : Nat) : Int) 4 (by omega) (by omega) (by omega) _ (by first | exact HO.out | exact GO.drewN HO.out _) (by first | exact hz | (simp only [World.heap_drewN]; exact hz)) HN.out).mono ?_
        rintro z w7 ⟨v7, rfl, hown7, hb7⟩
        have HO7 := Lib.hid hown7
        have hbw7 := Below.trans (show Below w.heap.size w _ from by first | exact hbw | exact below_drewN hbw _ | exact Below.drew hbw) (hb7.mono (by omega))
        have hz7 := hb7.size
        (try simp only [World.heap_drewN, World.size_drew] at hz7)
        clear hown7 hb7
        go_wp2_with fail
        exact ⟨⟨k + 1, by omega, by go_num, HNX.out ▸ HO7.out, hbw7, by omega⟩, by simp [intOf]; omega⟩
      · have hkn : k = cs.length := by omega
        subst hkn
        have HN := Lib.hid (show (bodyB s d cs).length < 1000000000 by rw [bodyB_length]; omega)
        have hcv := run_str oneU8S Try.underlying9 Try.underlying5 HO.out (by intro e; have := congrArg List.length e; simp [HLH.out] at this)
        go_wp2_with fail
        refine (i_CheckOf ⟨(headB s d cs ++ numsB cs cs.length).toArray⟩ (by have := HN.out; show (headB s d cs ++ numsB cs cs.length).toArray.size ≤ _; simp only [bodyB] at this; rw [List.size_toArray]; omega) 0 (by omega) (by omega) _).mono ?_
        rintro z w6 ⟨rfl, n6, rfl⟩
        clear hcv
        have hck := ckL_bound (n := 0) (by omega) (by omega) (bodyB s d cs)
        rw [show ckL 0 (ByteArray.mk (headB s d cs ++ numsB cs cs.length).toArray).data.toList = ckL 0 (bodyB s d cs) from rfl]
        go_wp2_with fail
        refine (i_bytesOf (w.heap.size + 1) u4 (bodyB s d cs) (ckL 0 (bodyB s d cs)) 2 (by omega) (by omega) (by omega) _ (by first | exact HO.out | exact GO.drewN HO.out _) (by first | exact hz | (simp only [World.heap_drewN]; exact hz)) HN.out).mono ?_
        rintro z w7 ⟨v7, rfl, hown7, hb7⟩
        have hcv := run_str oneU8S Try.underlying9 Try.underlying5 hown7 (by intro e; have := congrArg List.length e; simp [leB_length] at this)
        have hbw7 := Below.trans (show Below w.heap.size w _ from by first | exact hbw | exact below_drewN hbw _ | exact Below.drew hbw) (hb7.mono (by omega))
        clear hown7 hb7
        go_wp2_with fail
        go_ret2
        exact ⟨rfl, hbw7⟩

end Go.Proofs.Ytfckfdaloamkdaa
