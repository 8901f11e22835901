/- Contracts: numbers read, by the program: readHex, pieces, ReadNumbers. -/
import Derived.Test.YtebahccjaieajaaGreatDoorK118
import Derived.Test.YtebahccjaieajaaGreatDoorK106
namespace Go.Proofs.YtebahccjaieajaaGreatDoor
set_option linter.unusedSimpArgs false
set_option linter.unusedVariables false
set_option maxRecDepth 100000
set_option maxHeartbeats 4000000
open Go.RowKit
attribute [local go_sem] run_store_float run_store_complex alloc_drewN setCell_drewN


theorem f_ParseUintS (t : ByteArray) (h8 : t.size = 8) (ev : Value) (hev : ev = .nilIface ∨ ∃ te pe, ev = .iface te pe) (w : World) (hv : w.cell? ⟨2, 0, none⟩ = some ev) :
    Calls Tryz.prog 38 #[.string t, .int .i64 16, .int .i64 32] w fun e w' => (∃ er, e = .returned (.tuple #[.int .u64 (phU t.data.toList : Int), er])) ∧ Below w.heap.size w w' := by
  have HP := Lib.hid (f_ParseUint16 t h8)
  have hl8 : t.data.toList.length = 8 := (data_len t).trans h8
  have HQ := Lib.hid (show phU t.data.toList = (rdU 0 t.data.toList).getD 0 by rw [phU, if_pos hl8])
  generalize phU t.data.toList = q at *
  generalize rdU 0 t.data.toList = R at *
  have hvl := block_lt_of_cell hv
  have HT := Lib.hid (fun w hv => Tryz.strconv_toError_syntax ⟨#[80, 97, 114, 115, 101, 85, 105, 110, 116]⟩ t 16 32 ev w (by omega) hv hev)
  clear hl8 hev
  cases R with
  | some n =>
    have HQ2 := Lib.hid (show q = n from HQ.out)
    go_enter Tryz.func38, Tryz.ntmps38
    go_wp2_with fail
    refine (HP.out _).mono ?_; rintro e w1 ⟨rfl, hb⟩
    have e1 : pu16 82 (some n) = .tuple #[.int .u64 (n : Int), .nilIface] := rfl
    rw [e1]
    go_wp2_with fail
    go_ret2
    exact ⟨⟨_, by rw [HQ2.out]; rfl⟩, hb⟩
  | none =>
    have HQ2 := Lib.hid (show q = 0 from HQ.out)
    go_enter Tryz.func38, Tryz.ntmps38
    go_wp2_with fail
    refine (HP.out _).mono ?_; rintro e w1 ⟨rfl, hb⟩
    have e1 : pu16 82 none = .tuple #[.int .u64 0, .iface 82 (.int .i64 2)] := rfl
    rw [e1]
    have hv1 := (hb.cell (p := ⟨2, 0, none⟩) hvl).trans hv
    go_wp2_with fail
    refine (HT.out _ hv1).mono ?_; rintro e w2 ⟨N, rfl, -, -, hb2⟩
    go_wp2_with fail
    go_ret2
    exact ⟨⟨_, by rw [HQ2.out]; rfl⟩, hb.trans (hb2.mono hb.size)⟩

theorem i_readHex (t : ByteArray) (h8 : t.size = 8) (ev : Value) (hev : ev = .nilIface ∨ ∃ te pe, ev = .iface te pe) (w : World) (hv : w.cell? ⟨2, 0, none⟩ = some ev) :
    Calls Tryz.prog 24 #[.string t] w fun e w' => e = .returned (.float .f32 (phU t.data.toList)) ∧ Below w.heap.size w w' := by
  have HP := Lib.hid (f_ParseUintS t h8 ev hev w hv)
  have hlt := phU_lt t.data.toList
  generalize phU t.data.toList = q at *
  clear hev hv
  have h1 : IntKind.u32.wrap (q : Int) = (q : Int) := by rw [IntKind.wrap_u32]; omega
  have hb := c_Float32frombits
  go_enter Tryz.func24, Tryz.ntmps24
  go_wp2_with fail
  refine HP.out.mono ?_; rintro e w1 ⟨⟨er, rfl⟩, hb1⟩
  go_wp2_with fail
  go_ret
  exact ⟨rfl, hb1⟩

theorem f_SplitO (t : ByteArray) (m : Int) (w : World) (hs : t.size ≤ 100000000) (hm : w.cell? ⟨1, 0, none⟩ = some (.int .i64 m)) (c : UInt8) :
    Calls Tryz.prog 10 #[.string t, .string ⟨#[c]⟩] w fun e w' => (∃ v, e = .returned v ∧ GO Value.string 9 w.heap.size w' v (cutB c t)) ∧ Below w.heap.size w w' := by
  refine (Tryz.strings_Split t ⟨#[c]⟩ m w (by omega) hm (by simp [ByteArray.size])).mono fun e w' ⟨he, hw⟩ => ?_
  rw [splitB_cut] at hw
  rw [countB_cut] at he
  subst he hw
  have h1 := cutB_length c t
  have h2 := cutC_le c t.data.toList
  rw [data_len] at h2
  exact ⟨⟨_, rfl, GO.lit2 Value.string 9 w.heap.size w (cutB c t) rfl rfl h1.symm (Nat.le_refl _) (by omega)⟩, (Below.refl _ _).alloc (Nat.le_refl _) _⟩

theorem i_pieces (t : ByteArray) (m : Int) (w : World) (hs : t.size ≤ 100000000) (hm : w.cell? ⟨1, 0, none⟩ = some (.int .i64 m)) :
    Calls Tryz.prog 23 #[.string t] w fun e w' => (∃ v, e = .returned v ∧ GO Value.string 9 w.heap.size w' v ((irPs t.data.toList).map tx)) ∧ Below w.heap.size w w' := by
  by_cases ht : t = tx [110, 111, 110, 101]
  · subst ht
    have HQ := Lib.hid (show irPs (tx [110, 111, 110, 101]).data.toList = [] by rw [tx_data]; rfl)
    have e1 : (tx [110, 111, 110, 101]).toList = [110, 111, 110, 101] := by rw [ByteArray.toList_eq, tx_data]
    generalize tx [110, 111, 110, 101] = t at *
    generalize irPs t.data.toList = Q at HQ ⊢
    go_enter Tryz.func23, Tryz.ntmps23
    go_wp2_with fail
    go_ret
    exact ⟨⟨_, rfl, by rw [HQ.out]; exact GO.nil _ _ _⟩, Below.refl _ _⟩
  · have e1 := str_ne3 ht
    have e2 := str_ne4 ht
    have hne : t.data.toList ≠ [110, 111, 110, 101] := fun e => ht (by rw [← data_tx t, e])
    have HQ := Lib.hid (show (irPs t.data.toList).map tx = cutB 44 t by rw [irPs, if_neg hne]; rfl)
    have HS := Lib.hid (f_SplitO t m w hs hm 44)
    generalize (irPs t.data.toList).map tx = Q at HQ ⊢
    clear ht hne hm
    go_enter Tryz.func23, Tryz.ntmps23
    go_wp2_with fail
    refine HS.out.mono ?_; rintro e w1 ⟨⟨v, rfl, ho⟩, hb⟩
    go_wp2_with fail
    go_ret
    exact ⟨⟨_, rfl, by rw [HQ.out]; exact ho⟩, hb⟩
theorem GO.ow {T b : Nat} {w : World} {v : Value} {xs : List Nat} (h : GO (Value.float .f32) T b w v xs) (hlt : ∀ x ∈ xs, x < 4294967296) : OW T b w v (xs.map (cn .f32)) := ⟨xs, h, rfl, hlt⟩

theorem i_ReadNumbers (t : ByteArray) (m : Int) (ev : Value) (hev : ev = .nilIface ∨ ∃ te pe, ev = .iface te pe) (w : World) (hs : t.size ≤ 100000000) (hm : w.cell? ⟨1, 0, none⟩ = some (.int .i64 m))
    (hdb : w.cell? ⟨8, 15, none⟩ = some (.int .u8 4)) (hv : w.cell? ⟨2, 0, none⟩ = some ev) :
    Calls Tryz.prog 11 #[.string t] w fun e w' => ∃ u, e = .returned (.tuple #[u, .bool (nrQ t.data.toList).isSome]) ∧ NRes 22 w.heap.size w' u (nrQ t.data.toList) ∧ Below w.heap.size w w' := by
  have HQ := Lib.hid (irQ_eq phU phU_hex8 phU_lt t.data.toList)
  generalize nrQ t.data.toList = Q at HQ ⊢
  have HP := Lib.hid (fun w hm => i_pieces t m w hs hm)
  have hlm := block_lt_of_cell hm
  have hld := block_lt_of_cell hdb
  have hlv := block_lt_of_cell hv
  have HEV := Lib.hid hev
  clear hev
  rw [irQ] at HQ
  generalize irPs t.data.toList = ps at HQ HP
  have HT := Lib.hid (data_tx t)
  obtain ⟨pb, hpb⟩ : ∃ pb, pb = ps.map tx := ⟨_, rfl⟩
  rw [← hpb] at HP
  have HCB := Lib.hid hpb
  have HL := Lib.hid (show pb.length = ps.length by rw [hpb]; exact List.length_map ..)
  clear hpb
  have HE := Lib.hid (GO.empty (inj := Value.float .f32) 22 w rfl (Nat.le_refl w.heap.size))
  have hbA : Below w.heap.size w (w.alloc (.cells #[] 22)) := (Below.refl _ _).alloc (Nat.le_refl _) _
  have HN8 := Lib.hid (fun k (hk : k < ps.length) (h : ps[k].length ≠ 8) => show Q = none by
    rw [← HQ.out, if_neg]
    exact fun hh => h (hh.2.1 _ (List.getElem_mem hk)))
  have HN256 := Lib.hid (fun (h : 256 < ps.length) => show Q = none by
    rw [← HQ.out, if_neg]
    exact fun hh => absurd hh.1 (by omega))
  have HQT := Lib.hid (fun (h : ps.length ≤ 256) (h8 : ∀ k, (hk : k < ps.length) → ps[k].length = 8) => show Q = if hxAll ((ps.map phU).map (cn .f32)) = t.data.toList then some (ps.map phU) else none by
    rw [← HQ.out]
    by_cases hx : hxAll ((ps.map phU).map (cn .f32)) = t.data.toList
    · rw [if_pos hx, if_pos ⟨h, fun l hl => by obtain ⟨i, hi, rfl⟩ := List.getElem_of_mem hl; exact h8 i hi, hx⟩]
    · rw [if_neg hx, if_neg (fun hh => hx hh.2.2)])
  clear HQ
  go_enter Tryz.func11, Tryz.ntmps11
  go_wp2_with fail
  refine (HP.out _ ((hbA.cell (p := ⟨1, 0, none⟩) hlm).trans hm)).mono ?_; rintro e w1 ⟨⟨v, rfl, ho⟩, hb⟩
  have hb1 : Below w.heap.size w w1 := hbA.trans (hb.mono hbA.size)
  have hz1 := hb1.size
  have HE1 := Lib.hid (HE.out.keep hb)
  obtain ⟨ao, c, rfl, hlen⟩ := ho.slice
  have HO := Lib.hid ho
  clear hb ho hbA HE
  go_wp2_with fail
  go_loopw [4, 13] (fun o i wr => ∃ (k : Nat), k ≤ pb.length ∧ k ≤ 256 ∧ i = .int .i64 (k : Int) ∧ Hid (∀ j, j < k → (hj : j < ps.length) → ps[j].length = 8) ∧ Hid (GO (Value.float .f32) 22 w.heap.size wr o ((ps.take k).map phU)) ∧ Hid (GO Value.string 9 (w.alloc (.cells #[] 22)).heap.size wr (.slice ao pb.length c) pb) ∧ Below w.heap.size w wr) (fun _ i _ => pb.length - (intOf i).toNat)
  case atStart => exact ⟨0, Nat.zero_le _, Nat.zero_le _, rfl, fun j h => absurd h (Nat.not_lt_zero _), HE1.out, HO.out, hb1⟩
  case round =>
    obtain ⟨k, hk, hk2, rfl, HJ, HG, HP2, hbr⟩ := hrel
    have hsz := hbr.size
    have HLN := Lib.hid (show ((ps.take k).map phU).length = k by rw [List.length_map, List.length_take]; have := HL.out; omega)
    by_cases hlt : k < pb.length
    · obtain ⟨pbk, pc2, hpv⟩ := HP2.out.addr (by intro e; rw [e] at hlt; exact absurd hlt (Nat.not_lt_zero _))
      injection hpv with e3 _ e4
      subst e3 e4
      have hkc : k < ps.length := by have := HL.out; omega
      have hcl := HP2.out.gl.cells k _ (List.getElem?_eq_getElem hlt)
      rw [Nat.zero_add] at hcl
      have HX := Lib.hid (show pb[k].data.toList = ps[k] by simp only [HCB.out, List.getElem_map]; exact tx_data _)
      have HST := Lib.hid (show ((ps.take (k + 1)).map phU) = (ps.take k).map phU ++ [phU ps[k]] by rw [List.take_succ_eq_append_getElem hkc, List.map_append]; rfl)
      have HN8k := Lib.hid (HN8.out k hkc)
      have HJ2 := Lib.hid (fun (h : ps[k].length = 8) j (hj : j < k + 1) (hj2 : j < ps.length) => show ps[j].length = 8 by
        by_cases e : j = k
        · subst e; exact h
        · exact HJ.out j (by omega) hj2)
      obtain ⟨x, hx⟩ : ∃ x, x = pb[k] := ⟨_, rfl⟩
      obtain ⟨l, hll⟩ : ∃ l, l = ps[k] := ⟨_, rfl⟩
      rw [← hx] at hcl HX
      rw [← hll] at HX HST HN8k HJ2
      clear hx hll
      have HXS := Lib.hid (show x.size = l.length by rw [← HX.out, data_len])
      obtain ⟨xs, hxs⟩ : ∃ xs, xs = (ps.take k).map phU := ⟨_, rfl⟩
      rw [← hxs] at HG HST HLN
      clear hxs
      have hxl : xs.length ≤ 256 := by have := HLN.out; omega
      obtain ⟨bo, co, rfl, hco⟩ := HG.out.slice
      by_cases h8 : x.size = 8
      · have h8b : ((x.size : Int) != 8) = false := by rw [h8]; rfl
        by_cases h256 : k = 256
        · have HF := Lib.hid (HN256.out (by omega))
          have h2b : (xs.length : Int) = 256 := by rw [HLN.out, h256]; rfl
          have h2n : xs.length = 256 := by rw [HLN.out, h256]
          clear h256
          go_wp2_with fail
          go_ret2
          exact ⟨_, by rw [HF.out]; rfl, by rw [HF.out]; rfl, hbr⟩
        · have h2b : ((xs.length : Int) == 256) = false := by have := HLN.out; rw [beq_eq_false_iff_ne]; omega
          have h2c : ¬ (xs.length : Int) = 256 := by have := HLN.out; omega
          have hs2 := hsz
          have hv2 := (hbr.cell (p := ⟨2, 0, none⟩) hlv).trans hv
          have HH := Lib.hid (i_readHex x h8 ev HEV.out wr hv2)
          rw [HX.out] at HH
          have hJ3 := Lib.hid (HJ2.out (HXS.out ▸ h8))
          generalize phU l = q at HH HST
          clear hv2
          go_wp2_with fail
          refine HH.out.mono ?_; rintro e w2 ⟨rfl, hb2⟩
          have HG1 := Lib.hid (HG.out.keep hb2)
          have HP3 := Lib.hid (HP2.out.keep hb2)
          have hb3 := hbr.trans (hb2.mono hsz)
          have hsz3 := hb3.size
          go_wp2_with (at_builtin; go_loud (refine wpList_gapp (inj := Value.float .f32) oneF32S f32V_one w.heap.size _ _ rfl (GO.alloc HG1.out _) [q] _ 1 rfl rfl (by intro i u hu; cases i with | zero => (simp only [List.getElem?_cons_zero, Option.some.injEq] at hu; subst hu; simp) | succ i => simp at hu) (by simp only [List.length_cons, List.length_nil]; omega) (by simp; omega) ?_; intro v2 w5 hown2 hg2; have HO2 := Lib.hid hown2; have HG2 := Lib.hid hg2; clear hown2 hg2))
          have HP5 := Lib.hid (GO.kept (GO.alloc HP3.out _) HG2.out (GO.ne (GO.alloc HP3.out (.cells #[.float .f32 q] 22)) (GO.alloc HG1.out (.cells #[.float .f32 q] 22)) (by decide)))
          exact ⟨⟨k + 1, by omega, by omega, by go_num, hJ3.out, by show GO _ _ _ _ _ _; rw [HST.out]; exact HO2.out, HP5.out, (hb3.alloc hsz3 _).grown HG2.out (by simp; omega) HG1.out.own_ge⟩, by simp [intOf]; omega⟩
      · have HF := Lib.hid (HN8k.out (by rw [← HXS.out]; exact h8))
        have h8b : ((x.size : Int) != 8) = true := by simp only [bne_iff_ne, ne_eq]; omega
        have h8c : ¬ (x.size : Int) = 8 := by omega
        go_wp2_with fail
        go_ret2
        exact ⟨_, by rw [HF.out]; rfl, by rw [HF.out]; rfl, hbr⟩
    · have hkn : k = pb.length := by omega
      have HK := Lib.hid (show (ps.take k).map phU = ps.map phU by rw [List.take_of_length_le (by have := HL.out; omega)])
      have HF := Lib.hid (HQT.out (by have := HL.out; omega) (fun j hj => HJ.out j (by have := HL.out; omega) hj))
      have HXL := Lib.hid (fun x (hx : x ∈ ps.map phU) => show x < 4294967296 by obtain ⟨l, _, rfl⟩ := List.mem_map.1 hx; exact phU_lt l)
      rw [HK.out] at HG HLN
      obtain ⟨xs, hxs⟩ : ∃ xs, xs = ps.map phU := ⟨_, rfl⟩
      rw [← hxs] at HG HLN HF HXL
      clear hxs HK
      obtain ⟨bo, co, rfl, hco⟩ := HG.out.slice
      have hng : ¬ ((k : Int) < (pb.length : Int)) := by omega
      have HSB := Lib.hid (HG.out.ow HXL.out).sb
      have hd2 := (hbr.cell (p := ⟨8, 15, none⟩) hld).trans hdb
      have HNT := Lib.hid (i_NumbersText _ _ _ HSB.out (by have := HLN.out; rw [List.length_map]; omega) hd2)
      clear hkn hd2
      go_wp2_with fail
      refine HNT.out.mono ?_; rintro e w2 ⟨rfl, hb2⟩
      have HG2 := Lib.hid (HG.out.keep hb2)
      have hb3 := hbr.trans (hb2.mono hsz)
      by_cases hx : hxAll (xs.map (cn .f32)) = t.data.toList
      · have HF2 := Lib.hid (HF.out.trans (if_pos hx))
        have ht : tx (hxAll (xs.map (cn .f32))) = t := by rw [hx]; exact HT.out
        rw [ht]
        clear hx ht
        go_wp2_with fail
        go_ret2
        exact ⟨_, by rw [HF2.out]; rfl, by rw [HF2.out]; exact HG2.out, hb3⟩
      · have HF2 := Lib.hid (HF.out.trans (if_neg hx))
        have ht : tx (hxAll (xs.map (cn .f32))) ≠ t := fun e => hx (by rw [← e, tx_data])
        have e1 := str_ne2 ht
        generalize tx (hxAll (xs.map (cn .f32))) = T at *
        clear hx ht
        go_wp2_with fail
        go_ret2
        exact ⟨_, by rw [HF2.out]; rfl, by rw [HF2.out]; rfl, hb3⟩

end Go.Proofs.YtebahccjaieajaaGreatDoor
