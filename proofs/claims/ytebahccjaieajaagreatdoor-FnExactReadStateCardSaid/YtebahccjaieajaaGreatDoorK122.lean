/- Contracts: states read, by both. Written by wip/mk122.py. -/
import Derived.Test.YtebahccjaieajaaGreatDoorK121
import Derived.Test.YtebahccjaieajaaGreatDoorK108
import Derived.Test.YtebahccjaieajaaGreatDoorK112
import Derived.Deep.RegionHeld3
namespace Go.Proofs.YtebahccjaieajaaGreatDoor
set_option linter.unusedSimpArgs false
set_option linter.unusedVariables false
set_option maxRecDepth 100000
set_option maxHeartbeats 4000000
open Go.RowKit
attribute [local go_sem] run_store_float run_store_complex alloc_drewN setCell_drewN
/-- The state with a text. -/
def rstQ (t : List UInt8) : Option (Nat × Nat × List Nat × Int) := match cutC 59 t with
  | [a, b, c] => match nrQ a, nrQ b, rdD c with
    | some [l, s], some ns, some x => if stateB (cn .f32 l) (cn .f32 s) (ns.map (cn .f32)) x then some (l, s, ns, x) else none
    | _, _, _ => none
  | _ => none
theorem rstQ_parts {t : List UInt8} (h : (cutC 59 t).length ≠ 3) : rstQ t = none := by
  rw [rstQ]
  generalize cutC 59 t = ps at *
  match ps, h with
  | [], _ => rfl
  | [_], _ => rfl
  | [_, _], _ => rfl
  | [_, _, _], h => exact absurd rfl h
  | _ :: _ :: _ :: _ :: _, _ => rfl
theorem rstQ_1 {t a b c : List UInt8} (hp : cutC 59 t = [a, b, c]) (h : nrQ a = none) : rstQ t = none := by simp only [rstQ, hp, h]
theorem rstQ_2 {t a b c : List UInt8} (hp : cutC 59 t = [a, b, c]) (h : nrQ b = none) : rstQ t = none := by
  simp only [rstQ, hp, h]
  rcases nrQ a with _ | (_ | ⟨_, _ | ⟨_, _ | _⟩⟩) <;> rfl
theorem rstQ_3 {t a b c : List UInt8} (hp : cutC 59 t = [a, b, c]) (h : rdD c = none) : rstQ t = none := by
  simp only [rstQ, hp, h]
  rcases nrQ a with _ | (_ | ⟨_, _ | ⟨_, _ | _⟩⟩) <;> rcases nrQ b with _ | _ <;> rfl
theorem rstQ_4 {t a b c : List UInt8} {ls : List Nat} (hp : cutC 59 t = [a, b, c]) (h : nrQ a = some ls) (hl : ls.length ≠ 2) : rstQ t = none := by
  simp only [rstQ, hp, h]
  match ls, hl with
  | [], _ => rfl
  | [_], _ => rfl
  | [_, _], h => exact absurd rfl h
  | _ :: _ :: _ :: _, _ => rfl
theorem rstQ_5 {t a b c : List UInt8} {l s : Nat} {ns : List Nat} {x : Int} (hp : cutC 59 t = [a, b, c]) (h1 : nrQ a = some [l, s]) (h2 : nrQ b = some ns) (h3 : rdD c = some x) :
    rstQ t = if stateB (cn .f32 l) (cn .f32 s) (ns.map (cn .f32)) x then some (l, s, ns, x) else none := by
  simp only [rstQ, hp, h1, h2, h3]
theorem three_of {α : Type} {ns : List α} (h : ns.length = 3) : ∃ a b c, ns = [a, b, c] := by
  match ns, h with
  | [a, b, c], _ => exact ⟨a, b, c, rfl⟩
theorem two_of {α : Type} {ns : List α} (h : ns.length = 2) : ∃ a b, ns = [a, b] := by
  match ns, h with
  | [a, b], _ => exact ⟨a, b, rfl⟩
theorem NRes.keep {T lo : Nat} {w w' : World} {u : Value} {q : Option (List Nat)} (h : NRes T lo w u q) (hb : Below w.heap.size w w') : NRes T lo w' u q := by
  cases q with
  | none => exact h
  | some ns => exact GO.keep h hb
theorem pcAll_lt : ∀ {r : List (List UInt8)} {ns : List Nat}, pcAll r = some ns → ∀ i ∈ ns, i < 4294967296
  | [], ns, h, i, hi => by injection h with h; subst h; cases hi
  | x :: r, ns, h, i, hi => by
    rw [pcAll] at h
    cases hx : pcN x with
    | none => rw [hx] at h; cases h
    | some n =>
      rw [hx] at h
      cases hr : pcAll r with
      | none => rw [hr] at h; cases h
      | some ms =>
        rw [hr] at h
        injection h with h
        subst h
        rcases List.mem_cons.1 hi with e | e
        · rw [e]; exact (pcN_some hx).2.1
        · exact pcAll_lt hr i e
theorem nrQ_lt {t : List UInt8} {ns : List Nat} (h : nrQ t = some ns) : ∀ i ∈ ns, i < 4294967296 := by
  rw [nrQ] at h
  split at h
  · injection h with h; subst h; simp
  · split at h
    · exact pcAll_lt h
    · cases h
def stV (l s : Nat) (u : Value) (x : Int) : Value := .agg #[.float .f32 l, .float .f32 s, u, .int .i64 x]


theorem s_give (l s : Nat) (v : Value) (cs : List Nat) (x : Int) (w : World) (hv : SL w v cs) :
    Calls Tryz.prog 21 #[.agg #[.float .f32 l, .float .f32 s, v, .int .i64 x]] w fun z w' => z = .returned (.tuple #[if stateB (cn .f32 l) (cn .f32 s) cs x then .agg #[.float .f32 l, .float .f32 s, v, .int .i64 x] else .agg #[.float .f32 0, .float .f32 0, .slice none 0 0, .int .i64 0], .bool (stateB (cn .f32 l) (cn .f32 s) cs x)]) ∧ Below w.heap.size w w' := by
  obtain ⟨ao, c, rfl, hlen⟩ := hv.slice
  have HV := Lib.hid hv
  clear hv
  have LIS := Lib.hid (fun p => s_l04Is0 p l s (.slice ao cs.length c) cs x)
  generalize stateB (cn .f32 l) (cn .f32 s) cs x = B at *
  have hbA : Below w.heap.size w (w.alloc (.cells [.float .f32 l, .float .f32 s, .slice ao cs.length c, .int .i64 x].toArray 25)) := (Below.refl _ _).alloc (Nat.le_refl _) _
  have HA := Lib.hid (BK.alloc (BK.new w [.float .f32 l, .float .f32 s, .slice ao cs.length c, .int .i64 x] 25) (.cells [.float .f32 0, .float .f32 0, .slice none 0 0, .int .i64 0].toArray 25))
  have HE := Lib.hid (BK.newAt (n := w.heap.size + 1) (w.alloc (.cells [.float .f32 l, .float .f32 s, .slice ao cs.length c, .int .i64 x].toArray 25)) [.float .f32 0, .float .f32 0, .slice none 0 0, .int .i64 0] 25 (by simp))
  have HB := Lib.hid (hbA.alloc hbA.size (.cells [.float .f32 0, .float .f32 0, .slice none 0 0, .int .i64 0].toArray 25))
  go_enter Tryz.func21, Tryz.ntmps21
  go_wp2_with fail
  refine (LIS.out _ _ (HA.out.at rfl) (HA.out.at rfl) (HA.out.at rfl) (HA.out.at rfl) ((HV.out.keep hbA).keep ((Below.refl _ _).alloc (Nat.le_refl _) _))).mono ?_; rintro z w1 ⟨rfl, hd⟩
  have hb := hd.below ((w.alloc (.cells [.float .f32 l, .float .f32 s, .slice ao cs.length c, .int .i64 x].toArray 25)).alloc (.cells [.float .f32 0, .float .f32 0, .slice none 0 0, .int .i64 0].toArray 25)).heap.size
  clear hd
  have HA1 := Lib.hid (HA.out.keep hb)
  have HE1 := Lib.hid (HE.out.keep hb)
  have HB1 := Lib.hid (HB.out.trans (hb.mono HB.out.size))
  have hca := HA1.out.cells
  have hx0 := HA1.out.at (i := 0) rfl
  have hx1 := HA1.out.at (i := 1) rfl
  have hx2 := HA1.out.at (i := 2) rfl
  have hx3 := HA1.out.at (i := 3) rfl
  clear hb hca hbA HA HE HB LIS HV
  cases B with
  | false =>
    go_wp2_with (refine wpList_storeAgg (us := [.float .f32 0, .float .f32 0, .slice none 0 0, .int .i64 0]) (storeSt _ _ _ _ _ _ _ _) rfl rfl (by simp [Value.oneCell']) HE1.out (by simp) ?_; intro W hE hO hL hZ hG; have HW := Lib.hid (hL _ _ HB1.out (by omega)); simp [setsAt] at hE; have hce := hE.cells; clear hO hL hG)
    (try simp only [Exit.inBlock, Exit.then])
    exact bodyPost_ret (by simp [results, Tryz.results21, go_sem, hce]; try rfl) rfl ⟨rfl, HW.out⟩
  | true =>
    go_wp2_with (refine wpList_storeAgg (us := [.float .f32 l, .float .f32 s, .slice ao cs.length c, .int .i64 x]) (storeSt _ _ _ _ _ _ _ _) rfl rfl (by simp [Value.oneCell']) HE1.out (by simp) ?_; intro W hE hO hL hZ hG; have HW := Lib.hid (hL _ _ HB1.out (by omega)); simp [setsAt] at hE; have hce := hE.cells; clear hO hL hG)
    (try simp only [Exit.inBlock, Exit.then])
    exact bodyPost_ret (by simp [results, Tryz.results21, go_sem, hce]; try rfl) rfl ⟨rfl, HW.out⟩


theorem i_give (l s : Nat) (v : Value) (cs : List Nat) (x : Int) (w : World) (hv : SL w v cs) :
    Calls Tryz.prog 13 #[.agg #[.float .f32 l, .float .f32 s, v, .int .i64 x]] w fun z w' => z = .returned (.tuple #[if stateB (cn .f32 l) (cn .f32 s) cs x then .agg #[.float .f32 l, .float .f32 s, v, .int .i64 x] else .agg #[.float .f32 0, .float .f32 0, .slice none 0 0, .int .i64 0], .bool (stateB (cn .f32 l) (cn .f32 s) cs x)]) ∧ Below w.heap.size w w' := by
  obtain ⟨ao, c, rfl, hlen⟩ := hv.slice
  have HV := Lib.hid hv
  clear hv
  have LIS := Lib.hid (i_ValidState l s (.slice ao cs.length c) cs x)
  generalize stateB (cn .f32 l) (cn .f32 s) cs x = B at *
  have hbA : Below w.heap.size w (w.alloc (.cells [.float .f32 l, .float .f32 s, .slice ao cs.length c, .int .i64 x].toArray 25)) := (Below.refl _ _).alloc (Nat.le_refl _) _
  have HA := Lib.hid (BK.alloc (BK.new w [.float .f32 l, .float .f32 s, .slice ao cs.length c, .int .i64 x] 25) (.cells [.float .f32 0, .float .f32 0, .slice none 0 0, .int .i64 0].toArray 25))
  have HE := Lib.hid (BK.newAt (n := w.heap.size + 1) (w.alloc (.cells [.float .f32 l, .float .f32 s, .slice ao cs.length c, .int .i64 x].toArray 25)) [.float .f32 0, .float .f32 0, .slice none 0 0, .int .i64 0] 25 (by simp))
  have HB := Lib.hid (hbA.alloc hbA.size (.cells [.float .f32 0, .float .f32 0, .slice none 0 0, .int .i64 0].toArray 25))
  go_enter Tryz.func13, Tryz.ntmps13
  go_wp2_with fail
  refine (LIS.out _ ((HV.out.keep hbA).keep ((Below.refl _ _).alloc (Nat.le_refl _) _))).mono ?_; rintro z w1 ⟨rfl, hb⟩
  have HA1 := Lib.hid (HA.out.keep hb)
  have HE1 := Lib.hid (HE.out.keep hb)
  have HB1 := Lib.hid (HB.out.trans (hb.mono HB.out.size))
  have hca := HA1.out.cells
  have hx0 := HA1.out.at (i := 0) rfl
  have hx1 := HA1.out.at (i := 1) rfl
  have hx2 := HA1.out.at (i := 2) rfl
  have hx3 := HA1.out.at (i := 3) rfl
  clear hb hca hbA HA HE HB LIS HV
  cases B with
  | false =>
    go_wp2_with (refine wpList_storeAgg (us := [.float .f32 0, .float .f32 0, .slice none 0 0, .int .i64 0]) (storeSt _ _ _ _ _ _ _ _) rfl rfl (by simp [Value.oneCell']) HE1.out (by simp) ?_; intro W hE hO hL hZ hG; have HW := Lib.hid (hL _ _ HB1.out (by omega)); simp [setsAt] at hE; have hce := hE.cells; clear hO hL hG)
    (try simp only [Exit.inBlock, Exit.then])
    exact bodyPost_ret (by simp [results, Tryz.results13, go_sem, hce]; try rfl) rfl ⟨rfl, HW.out⟩
  | true =>
    go_wp2_with (refine wpList_storeAgg (us := [.float .f32 l, .float .f32 s, .slice ao cs.length c, .int .i64 x]) (storeSt _ _ _ _ _ _ _ _) rfl rfl (by simp [Value.oneCell']) HE1.out (by simp) ?_; intro W hE hO hL hZ hG; have HW := Lib.hid (hL _ _ HB1.out (by omega)); simp [setsAt] at hE; have hce := hE.cells; clear hO hL hG)
    (try simp only [Exit.inBlock, Exit.then])
    exact bodyPost_ret (by simp [results, Tryz.results13, go_sem, hce]; try rfl) rfl ⟨rfl, HW.out⟩


set_option maxRecDepth 100000 in
theorem s_l08ReadState (t : ByteArray) (w : World) (hs : t.size ≤ 100000000) :
    Calls Tryz.prog 9 #[.string t] w fun e w' => (∃ l s u x, e = .returned (.tuple #[.agg #[.float .f32 l, .float .f32 s, u, .int .i64 x], .bool (rstQ t.data.toList).isSome]) ∧ ∃ ns, (rstQ t.data.toList).getD (0, 0, [], 0) = (l, s, ns, x) ∧ GO (Value.float .f32) 22 w.heap.size w' u ns ∧ (∀ i ∈ ns, i < 4294967296)) ∧ Below w.heap.size w w' := by
  have HP0 := Lib.hid (fun h => rstQ_parts (t := t.data.toList) h)
  have HP1 := Lib.hid (fun a b c hp h => rstQ_1 (t := t.data.toList) (a := a) (b := b) (c := c) hp h)
  have HP2 := Lib.hid (fun a b c hp h => rstQ_2 (t := t.data.toList) (a := a) (b := b) (c := c) hp h)
  have HP3 := Lib.hid (fun a b c hp h => rstQ_3 (t := t.data.toList) (a := a) (b := b) (c := c) hp h)
  have HP4 := Lib.hid (fun a b c ls hp h hl => rstQ_4 (t := t.data.toList) (a := a) (b := b) (c := c) (ls := ls) hp h hl)
  have HP5 := Lib.hid (fun a b c l s ns x hp h1 h2 h3 => rstQ_5 (t := t.data.toList) (a := a) (b := b) (c := c) (l := l) (s := s) (ns := ns) (x := x) hp h1 h2 h3)
  have HSZ := Lib.hid (fun x (hx : x ∈ cutC 59 t.data.toList) => show x.length ≤ 100000000 by have := cutC_mem_len 59 t.data.toList hx; rw [data_len] at this; omega)
  have HC := Lib.hid (show cutB 59 t = (cutC 59 t.data.toList).map tx from rfl)
  have HCT := Lib.hid (s_l01Cut t 59 (by omega))
  generalize cutB 59 t = pb at HC HCT
  generalize rstQ t.data.toList = Q at *
  generalize cutC 59 t.data.toList = ps at *
  have HWA := Lib.hid (show Below w.heap.size w (w.alloc (.cells [.float .f32 0, .float .f32 0, .slice none 0 0, .int .i64 0].toArray 25)) from (Below.refl _ _).alloc (Nat.le_refl _) _)
  have HE := Lib.hid (BK.new w [.float .f32 0, .float .f32 0, .slice none 0 0, .int .i64 0] 25)
  
  go_enter Tryz.func9, Tryz.ntmps9
  go_wp2_with fail
  refine (HCT.out _).mono ?_; rintro e w1 ⟨v, rfl, ho, hb⟩
  have HO := Lib.hid ho
  clear ho
  have HE1 := Lib.hid (HE.out.keep hb)
  have HW1 := Lib.hid (HWA.out.trans (hb.mono HWA.out.size))
  have hz1 := HE1.out.lt
  have hln : pb.length = ps.length := by rw [HC.out, List.length_map]
  clear hb HE HWA HCT
  by_cases h3 : ps.length = 3
  · obtain ⟨a, b, c, rfl⟩ := three_of h3
    have hpb : pb = [tx a, tx b, tx c] := HC.out
    subst hpb
    obtain ⟨g, cp, rfl⟩ := HO.out.addr (by simp)
    have e0 := HO.out.gl.cells 0 _ rfl
    have e1 := HO.out.gl.cells 1 _ rfl
    have e2 := HO.out.gl.cells 2 _ rfl
    simp only [Nat.zero_add] at e0 e1 e2
    have hg1 := block_lt_of_cell e0
    have hsa : (tx a).size ≤ 100000000 := by rw [tx_size]; exact HSZ.out a (by simp)
    have hsb : (tx b).size ≤ 100000000 := by rw [tx_size]; exact HSZ.out b (by simp)
    have hsc : (tx c).size ≤ 100000000 := by rw [tx_size]; exact HSZ.out c (by simp)
    replace HP1 := Lib.hid (HP1.out a b c rfl)
    replace HP2 := Lib.hid (HP2.out a b c rfl)
    replace HP3 := Lib.hid (HP3.out a b c rfl)
    replace HP4 := Lib.hid (fun ls => HP4.out a b c ls rfl)
    replace HP5 := Lib.hid (fun l s ns x => HP5.out a b c l s ns x rfl)
    have HA := Lib.hid (fun w  => s_l01NRead (tx a) (by omega) w)
    have HB := Lib.hid (fun w  => s_l01NRead (tx b) (by omega) w)
    have HD := Lib.hid (fun w  => s_l01Value (tx c) w)
    simp only [tx_data] at HA HB HD
    clear h3 HC HSZ HO hsa hsb hsc hln
    generalize tx a = ta at *
    generalize tx b = tb at *
    generalize tx c = tc at *
    have HLT := Lib.hid (fun ns h => nrQ_lt (t := b) (ns := ns) h)
    generalize nrQ a = qa at *
    generalize nrQ b = qb at *
    generalize rdD c = qc at *
    clear HP0
    go_wp2_with fail
    refine (HA.out _).mono ?_; rintro e w2 ⟨ua, rfl, ho, hb⟩
    have HE2 := Lib.hid (HE1.out.keep hb)
    have HW2 := Lib.hid (HW1.out.trans (hb.mono HW1.out.size))
    have f1 := (hb.cell (p := ⟨g, 1, none⟩) hg1).trans e1
    have f2 := (hb.cell (p := ⟨g, 2, none⟩) hg1).trans e2
    have hg2 := block_lt_of_cell f1
    have HUA := Lib.hid ho
    have HW1z := Lib.hid (show w.heap.size < w1.heap.size ∧ w1.heap.size ≤ w2.heap.size from ⟨hz1, hb.size⟩)
    clear hb e0 e1 e2 HE1 HW1 ho HA
    go_wp2_with fail
    refine (HB.out _).mono ?_; rintro e w3 ⟨ub, rfl, ho, hb⟩
    have HE3 := Lib.hid (HE2.out.keep hb)
    have HW3 := Lib.hid (HW2.out.trans (hb.mono HW2.out.size))
    have k2 := (hb.cell (p := ⟨g, 2, none⟩) hg2).trans f2
    have HUA3 := Lib.hid (show NRes 22 w1.heap.size w3 ua qa from NRes.keep HUA.out hb)
    have HUB := Lib.hid ho
    clear hb f1 f2 HE2 HW2 ho HB HUA
    go_wp2_with fail
    refine (HD.out _).mono ?_; rintro e w4 ⟨rfl, hb⟩
    have HE4 := Lib.hid (HE3.out.keep hb)
    have HW4 := Lib.hid (HW3.out.trans (hb.mono HW3.out.size))
    have HUA4 := Lib.hid (show NRes 22 w1.heap.size w4 ua qa from NRes.keep HUA3.out hb)
    have HUB4 := Lib.hid (show NRes 22 w2.heap.size w4 ub qb from NRes.keep HUB.out hb)
    have hz4 := HE4.out.lt
    clear hb k2 HE3 HW3 HUA3 HUB HD
    cases qa with
    | none =>
      obtain rfl : ua = .slice none 0 0 := HUA4.out
      have HF := Lib.hid (HP1.out rfl)
      clear HP1 HP2 HP3 HP4 HP5 HLT HUB4
      go_wp2_with (refine wpList_storeAgg (us := [.float .f32 0, .float .f32 0, .slice none 0 0, .int .i64 0]) (storeSt _ _ _ _ _ _ _ _) rfl rfl (by simp [Value.oneCell']) HE4.out (by simp) ?_; intro W hE hO hL hZ hG; have HW := Lib.hid (hL _ _ HW4.out (by omega)); simp [setsAt] at hE; have hce := hE.cells; clear hO hL hG)
      (try simp only [Exit.inBlock, Exit.then])
      exact bodyPost_ret (by simp [results, Tryz.results9, go_sem, hce]; try rfl) rfl ⟨⟨0, 0, _, 0, by rw [HF.out]; rfl, [], by rw [HF.out]; rfl, GO.nil _ _ _, by simp⟩, HW.out⟩
    | some ls =>
      obtain ⟨aa, ca, rfl, hca⟩ := GO.slice HUA4.out
      cases qb with
      | none =>
        obtain rfl : ub = .slice none 0 0 := HUB4.out
        have HF := Lib.hid (HP2.out rfl)
        clear HP1 HP2 HP3 HP4 HP5 HLT
        go_wp2_with (refine wpList_storeAgg (us := [.float .f32 0, .float .f32 0, .slice none 0 0, .int .i64 0]) (storeSt _ _ _ _ _ _ _ _) rfl rfl (by simp [Value.oneCell']) HE4.out (by simp) ?_; intro W hE hO hL hZ hG; have HW := Lib.hid (hL _ _ HW4.out (by omega)); simp [setsAt] at hE; have hce := hE.cells; clear hO hL hG)
        (try simp only [Exit.inBlock, Exit.then])
        exact bodyPost_ret (by simp [results, Tryz.results9, go_sem, hce]; try rfl) rfl ⟨⟨0, 0, _, 0, by rw [HF.out]; rfl, [], by rw [HF.out]; rfl, GO.nil _ _ _, by simp⟩, HW.out⟩
      | some ns =>
        obtain ⟨ab, cb, rfl, hcb⟩ := GO.slice HUB4.out
        cases qc with
        | none =>
          have HF := Lib.hid (HP3.out rfl)
          clear HP1 HP2 HP3 HP4 HP5 HLT
          go_wp2_with (refine wpList_storeAgg (us := [.float .f32 0, .float .f32 0, .slice none 0 0, .int .i64 0]) (storeSt _ _ _ _ _ _ _ _) rfl rfl (by simp [Value.oneCell']) HE4.out (by simp) ?_; intro W hE hO hL hZ hG; have HW := Lib.hid (hL _ _ HW4.out (by omega)); simp [setsAt] at hE; have hce := hE.cells; clear hO hL hG)
          (try simp only [Exit.inBlock, Exit.then])
          exact bodyPost_ret (by simp [results, Tryz.results9, go_sem, hce]; try rfl) rfl ⟨⟨0, 0, _, 0, by rw [HF.out]; rfl, [], by rw [HF.out]; rfl, GO.nil _ _ _, by simp⟩, HW.out⟩
        | some x =>
          by_cases h2 : ls.length = 2
          · obtain ⟨l, s, rfl⟩ := two_of h2
            have HF := Lib.hid (HP5.out l s ns x rfl rfl rfl)
            have HNL := Lib.hid (HLT.out ns rfl)
            have HG := Lib.hid (fun v w hv => s_give l s v (ns.map (cn .f32)) x w hv)
            generalize stateB (cn .f32 l) (cn .f32 s) (ns.map (cn .f32)) x = B at *
            have HSL := Lib.hid (GO.ow HUB4.out HNL.out).sb.sl
            obtain ⟨ga, cp2, he2⟩ := GO.addr HUA4.out (by simp)
            obtain ⟨rfl, -, rfl⟩ : aa = some ⟨ga, 0, none⟩ ∧ True ∧ ca = cp2 := by injection he2 with e1 _ e3; exact ⟨e1, trivial, e3⟩
            have e0 := (GO.gl HUA4.out).cells 0 _ rfl
            have e1 := (GO.gl HUA4.out).cells 1 _ rfl
            simp only [Nat.zero_add] at e0 e1
            clear HP1 HP2 HP3 HP4 HP5 HLT h2 he2
            have hga := block_lt_of_cell e0
            have hge := GO.own_ge (show GO (Value.float .f32) 22 w1.heap.size w4 (.slice (some ⟨ga, 0, none⟩) [l, s].length ca) [l, s] from HUA4.out) ga rfl
            have hne1 : ga ≠ w.heap.size := by omega
            have hne2 : w.heap.size ≠ ga := by omega
            clear hge
            cases B with
            | false =>
              simp only [Bool.false_eq_true, if_false] at HG HF
              go_wp2_with fail
              go_region_held3 (fun W => W.cell? ⟨ga, 0, none⟩ = some (.float .f32 l) ∧ W.cell? ⟨ga, 1, none⟩ = some (.float .f32 s)) (first | (simp; done) | (simp [*]; done) | go_keep) (first | (go_at_call 21; refine (HG.out _ _ (by first | exact HSL.out | exact SL.drewN HSL.out _ | exact HSL.out)).mono ?_; rintro z w5 ⟨rfl, hb⟩; have HE5 := Lib.hid (BK.keep (by first | exact HE4.out | exact HE4.out.drew | exact HE4.out.drewN _) hb); have HW5 := Lib.hid (Below.trans (by first | exact HW4.out | exact Below.drew HW4.out | exact below_drewN HW4.out _) (hb.mono HW4.out.size)); have HUB5 := Lib.hid (GO.keep (by first | exact HUB4.out | exact GO.drew HUB4.out | exact GO.drewN HUB4.out _) hb); have n0 := (hb.cell (p := ⟨ga, 0, none⟩) (by assumption)).trans e0; have n1 := (hb.cell (p := ⟨ga, 1, none⟩) (by assumption)).trans e1; have g0 := HE5.out.at (i := 0) rfl; have g1 := HE5.out.at (i := 1) rfl; have g2 := HE5.out.at (i := 2) rfl; have g3 := HE5.out.at (i := 3) rfl; have gf := HE5.out.fro))
              have hE := (BK.set (BK.set (BK.set (BK.set HE5.out (j := 0) (by simp) (.float .f32 0)) (j := 1) (by simp) (.float .f32 0)) (j := 2) (by simp) (.slice none 0 0)) (j := 3) (by simp) (.int .i64 0))
              have HBW := Lib.hid (show Below w.heap.size w (World.setCell (World.setCell (World.setCell (World.setCell w5 ⟨w.heap.size, 0, none⟩ (.float .f32 0)) ⟨w.heap.size, 1, none⟩ (.float .f32 0)) ⟨w.heap.size, 2, none⟩ (.slice none 0 0)) ⟨w.heap.size, 3, none⟩ (.int .i64 0)) from (Below.setCell (Below.setCell (Below.setCell (Below.setCell HW5.out (Nat.le_refl _) _) (Nat.le_refl _) _) (Nat.le_refl _) _) (Nat.le_refl _) _))
              have HGR := Lib.hid (show World.grownBy w5 (World.setCell (World.setCell (World.setCell (World.setCell w5 ⟨w.heap.size, 0, none⟩ (.float .f32 0)) ⟨w.heap.size, 1, none⟩ (.float .f32 0)) ⟨w.heap.size, 2, none⟩ (.slice none 0 0)) ⟨w.heap.size, 3, none⟩ (.int .i64 0)) (some w.heap.size) from (grown_trans (grown_trans (grown_trans (grown_setCell w5 ⟨w.heap.size, 0, none⟩ (.float .f32 0)) (grown_setCell _ ⟨w.heap.size, 1, none⟩ (.float .f32 0))) (grown_setCell _ ⟨w.heap.size, 2, none⟩ (.slice none 0 0))) (grown_setCell _ ⟨w.heap.size, 3, none⟩ (.int .i64 0))))
              have HUB6 := Lib.hid (GO.kept HUB5.out HGR.out (by
                by_cases hb0 : (Value.slice ab ns.length cb).ownBlock = none
                · exact .inl hb0
                · refine .inr fun e => ?_
                  have := GO.own_ge HUB5.out _ e
                  have := HW1z.out
                  omega))
              simp at hE
              have hce := hE.cells
              go_wp2_with fail
              (try simp only [Exit.inBlock, Exit.then])
              exact bodyPost_ret (by simp [results, Tryz.results9, go_sem, hce]; try rfl) rfl ⟨⟨0, 0, _, 0, by rw [HF.out]; rfl, [], by rw [HF.out]; rfl, GO.nil _ _ _, by simp⟩, HBW.out⟩
            | true =>
              simp only [if_true] at HG HF
              go_wp2_with fail
              go_region_held3 (fun W => W.cell? ⟨ga, 0, none⟩ = some (.float .f32 l) ∧ W.cell? ⟨ga, 1, none⟩ = some (.float .f32 s)) (first | (simp; done) | (simp [*]; done) | go_keep) (first | (go_at_call 21; refine (HG.out _ _ (by first | exact HSL.out | exact SL.drewN HSL.out _ | exact HSL.out)).mono ?_; rintro z w5 ⟨rfl, hb⟩; have HE5 := Lib.hid (BK.keep (by first | exact HE4.out | exact HE4.out.drew | exact HE4.out.drewN _) hb); have HW5 := Lib.hid (Below.trans (by first | exact HW4.out | exact Below.drew HW4.out | exact below_drewN HW4.out _) (hb.mono HW4.out.size)); have HUB5 := Lib.hid (GO.keep (by first | exact HUB4.out | exact GO.drew HUB4.out | exact GO.drewN HUB4.out _) hb); have n0 := (hb.cell (p := ⟨ga, 0, none⟩) (by assumption)).trans e0; have n1 := (hb.cell (p := ⟨ga, 1, none⟩) (by assumption)).trans e1; have g0 := HE5.out.at (i := 0) rfl; have g1 := HE5.out.at (i := 1) rfl; have g2 := HE5.out.at (i := 2) rfl; have g3 := HE5.out.at (i := 3) rfl; have gf := HE5.out.fro))
              have hE := (BK.set (BK.set (BK.set (BK.set HE5.out (j := 0) (by simp) (.float .f32 l)) (j := 1) (by simp) (.float .f32 s)) (j := 2) (by simp) (.slice ab ns.length cb)) (j := 3) (by simp) (.int .i64 x))
              have HBW := Lib.hid (show Below w.heap.size w (World.setCell (World.setCell (World.setCell (World.setCell w5 ⟨w.heap.size, 0, none⟩ (.float .f32 l)) ⟨w.heap.size, 1, none⟩ (.float .f32 s)) ⟨w.heap.size, 2, none⟩ (.slice ab ns.length cb)) ⟨w.heap.size, 3, none⟩ (.int .i64 x)) from (Below.setCell (Below.setCell (Below.setCell (Below.setCell HW5.out (Nat.le_refl _) _) (Nat.le_refl _) _) (Nat.le_refl _) _) (Nat.le_refl _) _))
              have HGR := Lib.hid (show World.grownBy w5 (World.setCell (World.setCell (World.setCell (World.setCell w5 ⟨w.heap.size, 0, none⟩ (.float .f32 l)) ⟨w.heap.size, 1, none⟩ (.float .f32 s)) ⟨w.heap.size, 2, none⟩ (.slice ab ns.length cb)) ⟨w.heap.size, 3, none⟩ (.int .i64 x)) (some w.heap.size) from (grown_trans (grown_trans (grown_trans (grown_setCell w5 ⟨w.heap.size, 0, none⟩ (.float .f32 l)) (grown_setCell _ ⟨w.heap.size, 1, none⟩ (.float .f32 s))) (grown_setCell _ ⟨w.heap.size, 2, none⟩ (.slice ab ns.length cb))) (grown_setCell _ ⟨w.heap.size, 3, none⟩ (.int .i64 x))))
              have HUB6 := Lib.hid (GO.kept HUB5.out HGR.out (by
                by_cases hb0 : (Value.slice ab ns.length cb).ownBlock = none
                · exact .inl hb0
                · refine .inr fun e => ?_
                  have := GO.own_ge HUB5.out _ e
                  have := HW1z.out
                  omega))
              simp at hE
              have hce := hE.cells
              go_wp2_with fail
              (try simp only [Exit.inBlock, Exit.then])
              exact bodyPost_ret (by simp [results, Tryz.results9, go_sem, hce]; try rfl) rfl ⟨⟨l, s, _, x, by rw [HF.out]; rfl, ns, by rw [HF.out]; rfl, GO.down HUB6.out (by have := HW1z.out; omega), HNL.out⟩, HBW.out⟩
          · have HF := Lib.hid (HP4.out ls rfl h2)
            have hn2 : ¬ (ls.length : Int) = 2 := by omega
            have hb2 : ((ls.length : Int) != 2) = true := by simp only [bne_iff_ne, ne_eq]; omega
            clear HP1 HP2 HP3 HP4 HP5 HLT
            go_wp2_with (refine wpList_storeAgg (us := [.float .f32 0, .float .f32 0, .slice none 0 0, .int .i64 0]) (storeSt _ _ _ _ _ _ _ _) rfl rfl (by simp [Value.oneCell']) HE4.out (by simp) ?_; intro W hE hO hL hZ hG; have HW := Lib.hid (hL _ _ HW4.out (by omega)); simp [setsAt] at hE; have hce := hE.cells; clear hO hL hG)
            (try simp only [Exit.inBlock, Exit.then])
            exact bodyPost_ret (by simp [results, Tryz.results9, go_sem, hce]; try rfl) rfl ⟨⟨0, 0, _, 0, by rw [HF.out]; rfl, [], by rw [HF.out]; rfl, GO.nil _ _ _, by simp⟩, HW.out⟩
  · have HF := Lib.hid (HP0.out h3)
    have hn3 : ¬ (pb.length : Int) = 3 := by omega
    have hb3 : ((pb.length : Int) != 3) = true := by simp only [bne_iff_ne, ne_eq]; omega
    rcases HO.out.2 with ⟨rfl, e4⟩ | ⟨g, cp, cur, rfl, -, -, -⟩
    · go_wp2_with (refine wpList_storeAgg (us := [.float .f32 0, .float .f32 0, .slice none 0 0, .int .i64 0]) (storeSt _ _ _ _ _ _ _ _) rfl rfl (by simp [Value.oneCell']) HE1.out (by simp) ?_; intro W hE hO hL hZ hG; have HW := Lib.hid (hL _ _ HW1.out (by omega)); simp [setsAt] at hE; have hce := hE.cells; clear hO hL hG)
      (try simp only [Exit.inBlock, Exit.then])
      refine bodyPost_ret (by simp [results, Tryz.results9, go_sem, hce]; try rfl) rfl ⟨⟨0, 0, _, 0, by rw [HF.out]; rfl, [], by rw [HF.out]; rfl, GO.nil _ _ _, by simp⟩, HW.out⟩
    · go_wp2_with (refine wpList_storeAgg (us := [.float .f32 0, .float .f32 0, .slice none 0 0, .int .i64 0]) (storeSt _ _ _ _ _ _ _ _) rfl rfl (by simp [Value.oneCell']) HE1.out (by simp) ?_; intro W hE hO hL hZ hG; have HW := Lib.hid (hL _ _ HW1.out (by omega)); simp [setsAt] at hE; have hce := hE.cells; clear hO hL hG)
      (try simp only [Exit.inBlock, Exit.then])
      refine bodyPost_ret (by simp [results, Tryz.results9, go_sem, hce]; try rfl) rfl ⟨⟨0, 0, _, 0, by rw [HF.out]; rfl, [], by rw [HF.out]; rfl, GO.nil _ _ _, by simp⟩, HW.out⟩

end Go.Proofs.YtebahccjaieajaaGreatDoor
