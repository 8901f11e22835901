/- Contracts: states read, by the program; the reference's front. Written by wip/mk122.py. -/
import Derived.Test.YtebahccjaieajaaGreatDoorK122
namespace Go.Proofs.YtebahccjaieajaaGreatDoor
set_option linter.unusedSimpArgs false
set_option linter.unusedVariables false
set_option maxRecDepth 100000
set_option maxHeartbeats 4000000
open Go.RowKit
attribute [local go_sem] run_store_float run_store_complex alloc_drewN setCell_drewN
theorem GO.kept_off {α : Type} {inj : α → Value} {T lo p : Nat} {w W : World} {v : Value} {xs : List α} (h : GO inj T lo w v xs) (hg : w.grownBy W (some p)) (hp : p < lo) : GO inj T lo W v xs := by
  refine GO.kept h hg ?_
  by_cases hb0 : v.ownBlock = none
  · exact .inl hb0
  · refine .inr fun e => ?_
    have := GO.own_ge h _ e
    omega


set_option maxRecDepth 100000 in
theorem i_ReadState (t : ByteArray) (m : Int) (ev ev2 : Value) (hev : ev = .nilIface ∨ ∃ te pe, ev = .iface te pe) (hev2 : ev2 = .nilIface ∨ ∃ te pe, ev2 = .iface te pe) (w : World) (hs : t.size ≤ 100000000) (hm : w.cell? ⟨1, 0, none⟩ = some (.int .i64 m)) (hdb : w.cell? ⟨8, 15, none⟩ = some (.int .u8 4)) (hv : w.cell? ⟨2, 0, none⟩ = some ev) (hv2 : w.cell? ⟨3, 0, none⟩ = some ev2) (htab : Lib.TabIs Tryz.prog w "internal/strconv.uint64pow10" .u64 Lib.pow10Tab) :
    Calls Tryz.prog 5 #[.string t] w fun e w' => (∃ l s u x, e = .returned (.tuple #[.agg #[.float .f32 l, .float .f32 s, u, .int .i64 x], .bool (rstQ t.data.toList).isSome]) ∧ ∃ ns, (rstQ t.data.toList).getD (0, 0, [], 0) = (l, s, ns, x) ∧ GO (Value.float .f32) 22 w.heap.size w' u ns ∧ (∀ i ∈ ns, i < 4294967296)) ∧ Below w.heap.size w w' := by
  have HP0 := Lib.hid (fun h => rstQ_parts (t := t.data.toList) h)
  have HP1 := Lib.hid (fun a b c hp h => rstQ_1 (t := t.data.toList) (a := a) (b := b) (c := c) hp h)
  have HP2 := Lib.hid (fun a b c hp h => rstQ_2 (t := t.data.toList) (a := a) (b := b) (c := c) hp h)
  have HP3 := Lib.hid (fun a b c hp h => rstQ_3 (t := t.data.toList) (a := a) (b := b) (c := c) hp h)
  have HP4 := Lib.hid (fun a b c ls hp h hl => rstQ_4 (t := t.data.toList) (a := a) (b := b) (c := c) (ls := ls) hp h hl)
  have HP5 := Lib.hid (fun a b c l s ns x hp h1 h2 h3 => rstQ_5 (t := t.data.toList) (a := a) (b := b) (c := c) (l := l) (s := s) (ns := ns) (x := x) hp h1 h2 h3)
  have HSZ := Lib.hid (fun x (hx : x ∈ cutC 59 t.data.toList) => show x.length ≤ 100000000 by have := cutC_mem_len 59 t.data.toList hx; rw [data_len] at this; omega)
  have HC := Lib.hid (show cutB 59 t = (cutC 59 t.data.toList).map tx from rfl)
  have HCT := Lib.hid (fun w hm => f_SplitO t m w hs hm 59)
  generalize cutB 59 t = pb at HC HCT
  generalize rstQ t.data.toList = Q at *
  generalize cutC 59 t.data.toList = ps at *
  have HWA := Lib.hid (show Below w.heap.size w (w.alloc (.cells [.float .f32 0, .float .f32 0, .slice none 0 0, .int .i64 0].toArray 25)) from (Below.refl _ _).alloc (Nat.le_refl _) _)
  have HE := Lib.hid (BK.new w [.float .f32 0, .float .f32 0, .slice none 0 0, .int .i64 0] 25)
  have HM := Lib.hid (fun w' (h : Below w.heap.size w w') => (h.cell (p := ⟨1, 0, none⟩) (block_lt_of_cell hm)).trans hm)
  have HDB := Lib.hid (fun w' (h : Below w.heap.size w w') => (h.cell (p := ⟨8, 15, none⟩) (block_lt_of_cell hdb)).trans hdb)
  have HV := Lib.hid (fun w' (h : Below w.heap.size w w') => (h.cell (p := ⟨2, 0, none⟩) (block_lt_of_cell hv)).trans hv)
  have HV2 := Lib.hid (fun w' (h : Below w.heap.size w w') => (h.cell (p := ⟨3, 0, none⟩) (block_lt_of_cell hv2)).trans hv2)
  have HTB := Lib.hid (fun w' (h : Below w.heap.size w w') => Go.Joins.tab_stays (g := 6) (by kernel_rfl) htab h (Nat.le_refl _))
  have HEV := Lib.hid hev
  have HEV2 := Lib.hid hev2
  clear hm hdb hv hv2 htab hev hev2
  go_enter Tryz.func5, Tryz.ntmps5
  go_wp2_with fail
  refine (HCT.out _ (HM.out _ HWA.out)).mono ?_; rintro e w1 ⟨⟨v, rfl, ho⟩, hb⟩
  have HO := Lib.hid ho
  clear ho
  have HE1 := Lib.hid (HE.out.keep hb)
  have HW1 := Lib.hid (HWA.out.trans (hb.mono HWA.out.size))
  have hz1 := HE1.out.lt
  have hln : pb.length = ps.length := by rw [HC.out, List.length_map]
  clear hb HE HWA HCT
  by_cases h3 : ps.length = 3
  · obtain ⟨a, b, c, rfl⟩ := three_of h3
    have hpb : pb = [tx a, tx b, tx c] := HC.out
    subst hpb
    obtain ⟨g, cp, rfl⟩ := HO.out.addr (by simp)
    have e0 := HO.out.gl.cells 0 _ rfl
    have e1 := HO.out.gl.cells 1 _ rfl
    have e2 := HO.out.gl.cells 2 _ rfl
    simp only [Nat.zero_add] at e0 e1 e2
    have hg1 := block_lt_of_cell e0
    have hsa : (tx a).size ≤ 100000000 := by rw [tx_size]; exact HSZ.out a (by simp)
    have hsb : (tx b).size ≤ 100000000 := by rw [tx_size]; exact HSZ.out b (by simp)
    have hsc : (tx c).size ≤ 100000000 := by rw [tx_size]; exact HSZ.out c (by simp)
    replace HP1 := Lib.hid (HP1.out a b c rfl)
    replace HP2 := Lib.hid (HP2.out a b c rfl)
    replace HP3 := Lib.hid (HP3.out a b c rfl)
    replace HP4 := Lib.hid (fun ls => HP4.out a b c ls rfl)
    replace HP5 := Lib.hid (fun l s ns x => HP5.out a b c l s ns x rfl)
    have HA := Lib.hid (fun w hm hdb hv => i_ReadNumbers (tx a) m ev HEV.out w (by omega) hm hdb hv)
    have HB := Lib.hid (fun w hm hdb hv => i_ReadNumbers (tx b) m ev HEV.out w (by omega) hm hdb hv)
    have HD := Lib.hid (fun w hv hv2 htab => i_ReadDecimal (tx c) (by omega) ev ev2 HEV.out HEV2.out w hv hv2 htab)
    simp only [tx_data] at HA HB HD
    clear h3 HC HSZ HO hsa hsb hsc hln
    generalize tx a = ta at *
    generalize tx b = tb at *
    generalize tx c = tc at *
    have HLT := Lib.hid (fun ns h => nrQ_lt (t := b) (ns := ns) h)
    generalize nrQ a = qa at *
    generalize nrQ b = qb at *
    generalize rdD c = qc at *
    clear HP0
    go_wp2_with fail
    refine (HA.out _ (HM.out _ HW1.out) (HDB.out _ HW1.out) (HV.out _ HW1.out)).mono ?_; rintro e w2 ⟨ua, rfl, ho, hb⟩
    have HE2 := Lib.hid (HE1.out.keep hb)
    have HW2 := Lib.hid (HW1.out.trans (hb.mono HW1.out.size))
    have f1 := (hb.cell (p := ⟨g, 1, none⟩) hg1).trans e1
    have f2 := (hb.cell (p := ⟨g, 2, none⟩) hg1).trans e2
    have hg2 := block_lt_of_cell f1
    have HUA := Lib.hid ho
    have HW1z := Lib.hid (show w.heap.size < w1.heap.size ∧ w1.heap.size ≤ w2.heap.size from ⟨hz1, hb.size⟩)
    clear hb e0 e1 e2 HE1 HW1 ho HA
    go_wp2_with fail
    refine (HB.out _ (HM.out _ HW2.out) (HDB.out _ HW2.out) (HV.out _ HW2.out)).mono ?_; rintro e w3 ⟨ub, rfl, ho, hb⟩
    have HE3 := Lib.hid (HE2.out.keep hb)
    have HW3 := Lib.hid (HW2.out.trans (hb.mono HW2.out.size))
    have k2 := (hb.cell (p := ⟨g, 2, none⟩) hg2).trans f2
    have HUA3 := Lib.hid (show NRes 22 w1.heap.size w3 ua qa from NRes.keep HUA.out hb)
    have HUB := Lib.hid ho
    clear hb f1 f2 HE2 HW2 ho HB HUA
    go_wp2_with fail
    refine (HD.out _ (HV.out _ HW3.out) (HV2.out _ HW3.out) (HTB.out _ HW3.out)).mono ?_; rintro e w4 ⟨rfl, hb⟩
    have HE4 := Lib.hid (HE3.out.keep hb)
    have HW4 := Lib.hid (HW3.out.trans (hb.mono HW3.out.size))
    have HUA4 := Lib.hid (show NRes 22 w1.heap.size w4 ua qa from NRes.keep HUA3.out hb)
    have HUB4 := Lib.hid (show NRes 22 w2.heap.size w4 ub qb from NRes.keep HUB.out hb)
    have hz4 := HE4.out.lt
    clear hb k2 HE3 HW3 HUA3 HUB HD
    cases qa with
    | none =>
      obtain rfl : ua = .slice none 0 0 := HUA4.out
      have HF := Lib.hid (HP1.out rfl)
      clear HP1 HP2 HP3 HP4 HP5 HLT HUB4
      go_wp2_with (refine wpList_storeAgg (us := [.float .f32 0, .float .f32 0, .slice none 0 0, .int .i64 0]) (storeSt _ _ _ _ _ _ _ _) rfl rfl (by simp [Value.oneCell']) HE4.out (by simp) ?_; intro W hE hO hL hZ hG; have HW := Lib.hid (hL _ _ HW4.out (by omega)); simp [setsAt] at hE; have hce := hE.cells; clear hO hL hG)
      (try simp only [Exit.inBlock, Exit.then])
      exact bodyPost_ret (by simp [results, Tryz.results5, go_sem, hce]; try rfl) rfl ⟨⟨0, 0, _, 0, by rw [HF.out]; rfl, [], by rw [HF.out]; rfl, GO.nil _ _ _, by simp⟩, HW.out⟩
    | some ls =>
      obtain ⟨aa, ca, rfl, hca⟩ := GO.slice HUA4.out
      cases qb with
      | none =>
        obtain rfl : ub = .slice none 0 0 := HUB4.out
        have HF := Lib.hid (HP2.out rfl)
        clear HP1 HP2 HP3 HP4 HP5 HLT
        go_wp2_with (refine wpList_storeAgg (us := [.float .f32 0, .float .f32 0, .slice none 0 0, .int .i64 0]) (storeSt _ _ _ _ _ _ _ _) rfl rfl (by simp [Value.oneCell']) HE4.out (by simp) ?_; intro W hE hO hL hZ hG; have HW := Lib.hid (hL _ _ HW4.out (by omega)); simp [setsAt] at hE; have hce := hE.cells; clear hO hL hG)
        (try simp only [Exit.inBlock, Exit.then])
        exact bodyPost_ret (by simp [results, Tryz.results5, go_sem, hce]; try rfl) rfl ⟨⟨0, 0, _, 0, by rw [HF.out]; rfl, [], by rw [HF.out]; rfl, GO.nil _ _ _, by simp⟩, HW.out⟩
      | some ns =>
        obtain ⟨ab, cb, rfl, hcb⟩ := GO.slice HUB4.out
        cases qc with
        | none =>
          have HF := Lib.hid (HP3.out rfl)
          clear HP1 HP2 HP3 HP4 HP5 HLT
          go_wp2_with (refine wpList_storeAgg (us := [.float .f32 0, .float .f32 0, .slice none 0 0, .int .i64 0]) (storeSt _ _ _ _ _ _ _ _) rfl rfl (by simp [Value.oneCell']) HE4.out (by simp) ?_; intro W hE hO hL hZ hG; have HW := Lib.hid (hL _ _ HW4.out (by omega)); simp [setsAt] at hE; have hce := hE.cells; clear hO hL hG)
          (try simp only [Exit.inBlock, Exit.then])
          exact bodyPost_ret (by simp [results, Tryz.results5, go_sem, hce]; try rfl) rfl ⟨⟨0, 0, _, 0, by rw [HF.out]; rfl, [], by rw [HF.out]; rfl, GO.nil _ _ _, by simp⟩, HW.out⟩
        | some x =>
          by_cases h2 : ls.length = 2
          · obtain ⟨l, s, rfl⟩ := two_of h2
            have HF := Lib.hid (HP5.out l s ns x rfl rfl rfl)
            have HNL := Lib.hid (HLT.out ns rfl)
            have HG := Lib.hid (fun v w hv => i_give l s v (ns.map (cn .f32)) x w hv)
            generalize stateB (cn .f32 l) (cn .f32 s) (ns.map (cn .f32)) x = B at *
            have HSL := Lib.hid (GO.ow HUB4.out HNL.out).sb.sl
            obtain ⟨ga, cp2, he2⟩ := GO.addr HUA4.out (by simp)
            obtain ⟨rfl, -, rfl⟩ : aa = some ⟨ga, 0, none⟩ ∧ True ∧ ca = cp2 := by injection he2 with e1 _ e3; exact ⟨e1, trivial, e3⟩
            have e0 := (GO.gl HUA4.out).cells 0 _ rfl
            have e1 := (GO.gl HUA4.out).cells 1 _ rfl
            simp only [Nat.zero_add] at e0 e1
            clear HP1 HP2 HP3 HP4 HP5 HLT h2 he2
            have hga := block_lt_of_cell e0
            have hge := GO.own_ge (show GO (Value.float .f32) 22 w1.heap.size w4 (.slice (some ⟨ga, 0, none⟩) [l, s].length ca) [l, s] from HUA4.out) ga rfl
            have hne1 : ga ≠ w.heap.size := by omega
            have hne2 : w.heap.size ≠ ga := by omega
            clear hge
            cases B with
            | false =>
              simp only [Bool.false_eq_true, if_false] at HG HF
              go_wp2_with fail
              go_region_held3 (fun W => W.cell? ⟨ga, 0, none⟩ = some (.float .f32 l) ∧ W.cell? ⟨ga, 1, none⟩ = some (.float .f32 s)) (first | (simp; done) | (simp [*]; done) | go_keep) (first | (go_at_call 13; refine (HG.out _ _ (by first | exact HSL.out | exact SL.drewN HSL.out _ | exact HSL.out)).mono ?_; rintro z w5 ⟨rfl, hb⟩; have HE5 := Lib.hid (BK.keep (by first | exact HE4.out | exact HE4.out.drew | exact HE4.out.drewN _) hb); have HW5 := Lib.hid (Below.trans (by first | exact HW4.out | exact Below.drew HW4.out | exact below_drewN HW4.out _) (hb.mono HW4.out.size)); have HUB5 := Lib.hid (GO.keep (by first | exact HUB4.out | exact GO.drew HUB4.out | exact GO.drewN HUB4.out _) hb); have n0 := (hb.cell (p := ⟨ga, 0, none⟩) (by assumption)).trans e0; have n1 := (hb.cell (p := ⟨ga, 1, none⟩) (by assumption)).trans e1; have g0 := HE5.out.at (i := 0) rfl; have g1 := HE5.out.at (i := 1) rfl; have g2 := HE5.out.at (i := 2) rfl; have g3 := HE5.out.at (i := 3) rfl; have gf := HE5.out.fro))
              have hE := (BK.set (BK.set (BK.set (BK.set HE5.out (j := 0) (by simp) (.float .f32 0)) (j := 1) (by simp) (.float .f32 0)) (j := 2) (by simp) (.slice none 0 0)) (j := 3) (by simp) (.int .i64 0))
              have HBW := Lib.hid (show Below w.heap.size w (World.setCell (World.setCell (World.setCell (World.setCell w5 ⟨w.heap.size, 0, none⟩ (.float .f32 0)) ⟨w.heap.size, 1, none⟩ (.float .f32 0)) ⟨w.heap.size, 2, none⟩ (.slice none 0 0)) ⟨w.heap.size, 3, none⟩ (.int .i64 0)) from (Below.setCell (Below.setCell (Below.setCell (Below.setCell HW5.out (Nat.le_refl _) _) (Nat.le_refl _) _) (Nat.le_refl _) _) (Nat.le_refl _) _))
              have HGR := Lib.hid (show World.grownBy w5 (World.setCell (World.setCell (World.setCell (World.setCell w5 ⟨w.heap.size, 0, none⟩ (.float .f32 0)) ⟨w.heap.size, 1, none⟩ (.float .f32 0)) ⟨w.heap.size, 2, none⟩ (.slice none 0 0)) ⟨w.heap.size, 3, none⟩ (.int .i64 0)) (some w.heap.size) from (grown_trans (grown_trans (grown_trans (grown_setCell w5 ⟨w.heap.size, 0, none⟩ (.float .f32 0)) (grown_setCell _ ⟨w.heap.size, 1, none⟩ (.float .f32 0))) (grown_setCell _ ⟨w.heap.size, 2, none⟩ (.slice none 0 0))) (grown_setCell _ ⟨w.heap.size, 3, none⟩ (.int .i64 0))))
              have HUB6 := Lib.hid (GO.kept HUB5.out HGR.out (by
                by_cases hb0 : (Value.slice ab ns.length cb).ownBlock = none
                · exact .inl hb0
                · refine .inr fun e => ?_
                  have := GO.own_ge HUB5.out _ e
                  have := HW1z.out
                  omega))
              simp at hE
              have hce := hE.cells
              go_wp2_with fail
              (try simp only [Exit.inBlock, Exit.then])
              exact bodyPost_ret (by simp [results, Tryz.results5, go_sem, hce]; try rfl) rfl ⟨⟨0, 0, _, 0, by rw [HF.out]; rfl, [], by rw [HF.out]; rfl, GO.nil _ _ _, by simp⟩, HBW.out⟩
            | true =>
              simp only [if_true] at HG HF
              go_wp2_with fail
              go_region_held3 (fun W => W.cell? ⟨ga, 0, none⟩ = some (.float .f32 l) ∧ W.cell? ⟨ga, 1, none⟩ = some (.float .f32 s)) (first | (simp; done) | (simp [*]; done) | go_keep) (first | (go_at_call 13; refine (HG.out _ _ (by first | exact HSL.out | exact SL.drewN HSL.out _ | exact HSL.out)).mono ?_; rintro z w5 ⟨rfl, hb⟩; have HE5 := Lib.hid (BK.keep (by first | exact HE4.out | exact HE4.out.drew | exact HE4.out.drewN _) hb); have HW5 := Lib.hid (Below.trans (by first | exact HW4.out | exact Below.drew HW4.out | exact below_drewN HW4.out _) (hb.mono HW4.out.size)); have HUB5 := Lib.hid (GO.keep (by first | exact HUB4.out | exact GO.drew HUB4.out | exact GO.drewN HUB4.out _) hb); have n0 := (hb.cell (p := ⟨ga, 0, none⟩) (by assumption)).trans e0; have n1 := (hb.cell (p := ⟨ga, 1, none⟩) (by assumption)).trans e1; have g0 := HE5.out.at (i := 0) rfl; have g1 := HE5.out.at (i := 1) rfl; have g2 := HE5.out.at (i := 2) rfl; have g3 := HE5.out.at (i := 3) rfl; have gf := HE5.out.fro))
              have hE := (BK.set (BK.set (BK.set (BK.set HE5.out (j := 0) (by simp) (.float .f32 l)) (j := 1) (by simp) (.float .f32 s)) (j := 2) (by simp) (.slice ab ns.length cb)) (j := 3) (by simp) (.int .i64 x))
              have HBW := Lib.hid (show Below w.heap.size w (World.setCell (World.setCell (World.setCell (World.setCell w5 ⟨w.heap.size, 0, none⟩ (.float .f32 l)) ⟨w.heap.size, 1, none⟩ (.float .f32 s)) ⟨w.heap.size, 2, none⟩ (.slice ab ns.length cb)) ⟨w.heap.size, 3, none⟩ (.int .i64 x)) from (Below.setCell (Below.setCell (Below.setCell (Below.setCell HW5.out (Nat.le_refl _) _) (Nat.le_refl _) _) (Nat.le_refl _) _) (Nat.le_refl _) _))
              have HGR := Lib.hid (show World.grownBy w5 (World.setCell (World.setCell (World.setCell (World.setCell w5 ⟨w.heap.size, 0, none⟩ (.float .f32 l)) ⟨w.heap.size, 1, none⟩ (.float .f32 s)) ⟨w.heap.size, 2, none⟩ (.slice ab ns.length cb)) ⟨w.heap.size, 3, none⟩ (.int .i64 x)) (some w.heap.size) from (grown_trans (grown_trans (grown_trans (grown_setCell w5 ⟨w.heap.size, 0, none⟩ (.float .f32 l)) (grown_setCell _ ⟨w.heap.size, 1, none⟩ (.float .f32 s))) (grown_setCell _ ⟨w.heap.size, 2, none⟩ (.slice ab ns.length cb))) (grown_setCell _ ⟨w.heap.size, 3, none⟩ (.int .i64 x))))
              have HUB6 := Lib.hid (GO.kept HUB5.out HGR.out (by
                by_cases hb0 : (Value.slice ab ns.length cb).ownBlock = none
                · exact .inl hb0
                · refine .inr fun e => ?_
                  have := GO.own_ge HUB5.out _ e
                  have := HW1z.out
                  omega))
              simp at hE
              have hce := hE.cells
              go_wp2_with fail
              (try simp only [Exit.inBlock, Exit.then])
              exact bodyPost_ret (by simp [results, Tryz.results5, go_sem, hce]; try rfl) rfl ⟨⟨l, s, _, x, by rw [HF.out]; rfl, ns, by rw [HF.out]; rfl, GO.down HUB6.out (by have := HW1z.out; omega), HNL.out⟩, HBW.out⟩
          · have HF := Lib.hid (HP4.out ls rfl h2)
            have hn2 : ¬ (ls.length : Int) = 2 := by omega
            have hb2 : ((ls.length : Int) != 2) = true := by simp only [bne_iff_ne, ne_eq]; omega
            clear HP1 HP2 HP3 HP4 HP5 HLT
            go_wp2_with (refine wpList_storeAgg (us := [.float .f32 0, .float .f32 0, .slice none 0 0, .int .i64 0]) (storeSt _ _ _ _ _ _ _ _) rfl rfl (by simp [Value.oneCell']) HE4.out (by simp) ?_; intro W hE hO hL hZ hG; have HW := Lib.hid (hL _ _ HW4.out (by omega)); simp [setsAt] at hE; have hce := hE.cells; clear hO hL hG)
            (try simp only [Exit.inBlock, Exit.then])
            exact bodyPost_ret (by simp [results, Tryz.results5, go_sem, hce]; try rfl) rfl ⟨⟨0, 0, _, 0, by rw [HF.out]; rfl, [], by rw [HF.out]; rfl, GO.nil _ _ _, by simp⟩, HW.out⟩
  · have HF := Lib.hid (HP0.out h3)
    have hn3 : ¬ (pb.length : Int) = 3 := by omega
    have hb3 : ((pb.length : Int) != 3) = true := by simp only [bne_iff_ne, ne_eq]; omega
    rcases HO.out.2 with ⟨rfl, e4⟩ | ⟨g, cp, cur, rfl, -, -, -⟩
    · go_wp2_with (refine wpList_storeAgg (us := [.float .f32 0, .float .f32 0, .slice none 0 0, .int .i64 0]) (storeSt _ _ _ _ _ _ _ _) rfl rfl (by simp [Value.oneCell']) HE1.out (by simp) ?_; intro W hE hO hL hZ hG; have HW := Lib.hid (hL _ _ HW1.out (by omega)); simp [setsAt] at hE; have hce := hE.cells; clear hO hL hG)
      (try simp only [Exit.inBlock, Exit.then])
      refine bodyPost_ret (by simp [results, Tryz.results5, go_sem, hce]; try rfl) rfl ⟨⟨0, 0, _, 0, by rw [HF.out]; rfl, [], by rw [HF.out]; rfl, GO.nil _ _ _, by simp⟩, HW.out⟩
    · go_wp2_with (refine wpList_storeAgg (us := [.float .f32 0, .float .f32 0, .slice none 0 0, .int .i64 0]) (storeSt _ _ _ _ _ _ _ _) rfl rfl (by simp [Value.oneCell']) HE1.out (by simp) ?_; intro W hE hO hL hZ hG; have HW := Lib.hid (hL _ _ HW1.out (by omega)); simp [setsAt] at hE; have hce := hE.cells; clear hO hL hG)
      (try simp only [Exit.inBlock, Exit.then])
      refine bodyPost_ret (by simp [results, Tryz.results5, go_sem, hce]; try rfl) rfl ⟨⟨0, 0, _, 0, by rw [HF.out]; rfl, [], by rw [HF.out]; rfl, GO.nil _ _ _, by simp⟩, HW.out⟩


theorem s_ReadState (t : ByteArray) (w : World) (hs : t.size ≤ 100000000) :
    Calls Tryz.prog 4 #[.string t] w fun e w' => (∃ l s u x, e = .returned (.tuple #[.agg #[.float .f32 l, .float .f32 s, u, .int .i64 x], .bool (rstQ t.data.toList).isSome]) ∧ ∃ ns, (rstQ t.data.toList).getD (0, 0, [], 0) = (l, s, ns, x) ∧ GO (Value.float .f32) 22 w.heap.size w' u ns ∧ (∀ i ∈ ns, i < 4294967296)) ∧ Below w.heap.size w w' := by
  have HR := Lib.hid (fun w => s_l08ReadState t w hs)
  generalize rstQ t.data.toList = Q at *
  have HB0 := Lib.hid (BK.new w [.float .f32 0, .float .f32 0, .slice none 0 0, .int .i64 0] 25)
  have HW0 := Lib.hid (show Below w.heap.size w (w.alloc (.cells [.float .f32 0, .float .f32 0, .slice none 0 0, .int .i64 0].toArray 25)) from (Below.refl _ _).alloc (Nat.le_refl _) _)
  have HZ0 := Lib.hid (show w.heap.size + 1 ≤ (w.alloc (.cells [.float .f32 0, .float .f32 0, .slice none 0 0, .int .i64 0].toArray 25)).heap.size by simp)
  go_enter Tryz.func4, Tryz.ntmps4
  go_wp2_with fail
  refine (HR.out _).mono ?_; rintro e w1 ⟨⟨l, s, u, x, rfl, ns, hq, ho, hlt⟩, hb⟩
  have HB1 := Lib.hid (HB0.out.keep hb)
  have HW1 := Lib.hid (HW0.out.trans (hb.mono HW0.out.size))
  have hp1 := HB1.out.lt
  obtain ⟨ao, c, rfl, hc⟩ := ho.slice
  have HO := Lib.hid ho
  have HQ := Lib.hid hq
  have HLT := Lib.hid hlt
  clear hb HB0 HW0 ho hq hlt
  go_wp2_with (refine wpList_storeAgg (us := [.float .f32 l, .float .f32 s, .slice ao ns.length c, .int .i64 x]) (storeSt _ _ _ _ _ _ _ _) rfl rfl (by simp [Value.oneCell']) HB1.out (by simp) ?_; intro W hE hO hL hZ hG; have HW2 := Lib.hid (hL _ _ HW1.out (by omega)); have HO2 := Lib.hid (GO.kept_off HO.out hG HZ0.out); simp [setsAt] at hE; have hce := hE.cells; clear hO hL hG)
  (try simp only [Exit.inBlock, Exit.then])
  exact bodyPost_ret (by simp [results, Tryz.results4, go_sem, hce]; try rfl) rfl ⟨⟨l, s, _, x, rfl, ns, HQ.out, GO.down HO2.out (by have := HZ0.out; omega), HLT.out⟩, HW2.out⟩

end Go.Proofs.YtebahccjaieajaaGreatDoor
