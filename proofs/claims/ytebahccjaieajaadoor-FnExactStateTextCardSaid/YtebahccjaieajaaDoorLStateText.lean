/- THE LAW FnExactStateText: the program's StateText returns what the reference's returns, for all arguments. The condition: three tables of the library's start as the program's text lays them (the card ties them). Its walk is written by wip/mkST.py. -/
import Derived.Test.YtebahccjaieajaaDoorLawKitE
import Derived.Test.YtebahccjaieajaaDoorK111
import Derived.Test.YtebahccjaieajaaDoorK112
namespace Go.Proofs.YtebahccjaieajaaDoor
set_option linter.unusedSimpArgs false
set_option linter.unusedVariables false
set_option maxRecDepth 100000
set_option maxHeartbeats 4000000
open Go.ChangeShapes Go.WideShapes Go.ChangeAt Go.RowKit
open Go.ChangeMaps (open_string)
attribute [local go_sem] run_store_float run_store_complex alloc_drewN setCell_drewN

set_option maxRecDepth 100000 in
theorem FnExactStateText_walk {w : World} (htab : Lib.TabIs Tryd.prog w "internal/strconv.uint64pow10" .u64 Lib.pow10Tab) (hdb : w.cell? ⟨8, 15, none⟩ = some (.int .u8 4)) (l : Nat) (hl0 : l < 4294967296) (s : Nat) (hs0 : s < 4294967296) (v : Value) (cs : List Nat) (hv0 : SB w v cs) (x : Int) :
    Calls Tryd.prog 7 #[.agg #[.float .f32 l, .float .f32 s, v, .int .i64 x]] w fun z w' => z = .returned (.bool true) ∧ Below w.heap.size w w' := by
  have hl : ∀ x ∈ [l, s], x < 4294967296 := by
    intro x hx
    simp only [List.mem_cons, List.not_mem_nil, or_false] at hx
    rcases hx with rfl | rfl <;> assumption
  obtain ⟨ao, ac, rfl, hlen⟩ := hv0.sl.slice
  have HV := Lib.hid hv0
  have hdl := block_lt_of_cell hdb
  have HTB := Lib.hid (fun w' (h : Below w.heap.size w w') => tab_keep htab h)
  have HDB := Lib.hid (fun w' (h : Below w.heap.size w w') => (h.cell (p := ⟨8, 15, none⟩) hdl).trans hdb)
  have HS := Lib.hid (fun v w hv => s_StateText l s hl v cs x w hv)
  have HI := Lib.hid (fun v w hv hd ht => i_StateText l s hl v cs x w hv hd ht)
  generalize tx (stQ l s cs x).1 = t at HS HI
  generalize (stQ l s cs x).2 = q at HS HI
  clear hl hv0 htab hdb hlen
  by_cases h1 : (cs.length : Int) ≤ 1048576
  case neg =>
    go_enter Tryd.func7, Tryd.ntmps7
    go_wp2_with fail
    refine (l_szState _ _ _ cs _ 1048576 _ (SB.keep HV.out (by (repeat (first | with_reducible exact Below.refl _ _ | with_reducible assumption | with_reducible refine below_drewN ?_ _ | with_reducible refine Below.drew ?_ | with_reducible refine Below.alloc ?_ (by first | omega | (simp; omega) | (simp; done) | (simp at *; omega)) _ | with_reducible refine Below.setCell ?_ (by first | omega | (simp; omega) | (simp; done) | (simp at *; omega)) _ | refine Below.trans ?_ (Below.mono (by with_reducible assumption) (by first | omega | (simp; omega) | (simp; done) | (simp at *; omega))))))).sl (by omega) (by omega)).mono ?_
    rintro z w1 ⟨rfl, hb1⟩
    have HA := Lib.hid (show BK w1 (w.heap.size) [.float .f32 l, .float .f32 s, .slice ao cs.length ac, .int .i64 x] from BK.keep (BK.newAt (n := w.heap.size) _ _ _ (by simp)) hb1)
    have hbw : Below w.heap.size w w1 := (by (repeat (first | with_reducible exact Below.refl _ _ | with_reducible assumption | with_reducible refine below_drewN ?_ _ | with_reducible refine Below.drew ?_ | with_reducible refine Below.alloc ?_ (by first | omega | (simp; omega) | (simp; done) | (simp at *; omega)) _ | with_reducible refine Below.setCell ?_ (by first | omega | (simp; omega) | (simp; done) | (simp at *; omega)) _ | refine Below.trans ?_ (Below.mono (by with_reducible assumption) (by first | omega | (simp; omega) | (simp; done) | (simp at *; omega))))))
    clear hb1
    replace HV := Lib.hid (SB.keep HV.out hbw)
    have hcHA := HA.out.cells
    have hfHA := HA.out.fro
    rw [if_neg (by omega)]
    go_wp2_with fail
    go_ret
    exact ⟨rfl, by first | exact hbw | exact below_drewN hbw _ | exact Below.drew hbw⟩
  have hk0 : cs.length < 1099511627776 := by omega
  go_enter Tryd.func7, Tryd.ntmps7
  go_wp2_with fail
  refine (l_szState _ _ _ cs _ 1048576 _ (SB.keep HV.out (by (repeat (first | with_reducible exact Below.refl _ _ | with_reducible assumption | with_reducible refine below_drewN ?_ _ | with_reducible refine Below.drew ?_ | with_reducible refine Below.alloc ?_ (by first | omega | (simp; omega) | (simp; done) | (simp at *; omega)) _ | with_reducible refine Below.setCell ?_ (by first | omega | (simp; omega) | (simp; done) | (simp at *; omega)) _ | refine Below.trans ?_ (Below.mono (by with_reducible assumption) (by first | omega | (simp; omega) | (simp; done) | (simp at *; omega))))))).sl (by omega) (by omega)).mono ?_
  rintro z w1 ⟨rfl, hb1⟩
  have HA := Lib.hid (show BK w1 (w.heap.size) [.float .f32 l, .float .f32 s, .slice ao cs.length ac, .int .i64 x] from BK.keep (BK.newAt (n := w.heap.size) _ _ _ (by simp)) hb1)
  have hbw : Below w.heap.size w w1 := (by (repeat (first | with_reducible exact Below.refl _ _ | with_reducible assumption | with_reducible refine below_drewN ?_ _ | with_reducible refine Below.drew ?_ | with_reducible refine Below.alloc ?_ (by first | omega | (simp; omega) | (simp; done) | (simp at *; omega)) _ | with_reducible refine Below.setCell ?_ (by first | omega | (simp; omega) | (simp; done) | (simp at *; omega)) _ | refine Below.trans ?_ (Below.mono (by with_reducible assumption) (by first | omega | (simp; omega) | (simp; done) | (simp at *; omega))))))
  clear hb1
  replace HV := Lib.hid (SB.keep HV.out hbw)
  have hcHA := HA.out.cells
  have hfHA := HA.out.fro
  rw [if_pos h1]
  go_wp2_with fail
  refine (l_toState _ _ _ cs _ _ (by first | exact HV.out | exact SB.drewN HV.out _ | exact SB.drew HV.out) hk0).mono ?_
  rintro z w3 ⟨⟨u3, rfl, hu3⟩, hb3⟩
  clear hcHA hfHA
  have hyy := hb3.size
  (try simp only [World.heap_drewN, World.size_drew] at hyy)
  have hzz := hbw.size
  replace HA := Lib.hid (BK.keep (by first | exact HA.out | exact BK.drewN HA.out _ | exact BK.drew HA.out) hb3)
  replace HV := Lib.hid (SB.keep (by first | exact HV.out | exact SB.drewN HV.out _ | exact SB.drew HV.out) hb3)
  replace hbw := Below.trans (by first | exact hbw | exact below_drewN hbw _ | exact Below.drew hbw) (Below.mono hb3 (by (try simp only [World.heap_drewN, World.size_drew]); omega))
  clear hb3 hyy hzz
  obtain ⟨uo3, uc3, rfl, hr3⟩ := hu3.sb.sl.slice
  clear hr3
  have HU3 := Lib.hid hu3.sb
  clear hu3
  have hcHA := HA.out.cells
  have hfHA := HA.out.fro
  go_wp2_with fail
  refine (HS.out _ _ (by first | exact HU3.out | exact SB.drewN HU3.out _ | exact SB.drew HU3.out)).mono ?_
  rintro z w4 ⟨rfl, hb4⟩
  clear hcHA hfHA
  have hyy := hb4.size
  (try simp only [World.heap_drewN, World.size_drew] at hyy)
  have hzz := hbw.size
  replace HA := Lib.hid (BK.keep (by first | exact HA.out | exact BK.drewN HA.out _ | exact BK.drew HA.out) hb4)
  replace HV := Lib.hid (SB.keep (by first | exact HV.out | exact SB.drewN HV.out _ | exact SB.drew HV.out) hb4)
  replace hbw := Below.trans (by first | exact hbw | exact below_drewN hbw _ | exact Below.drew hbw) (Below.mono hb4 (by (try simp only [World.heap_drewN, World.size_drew]); omega))
  clear hb4 hyy hzz
  clear HU3
  have hcHA := HA.out.cells
  have hfHA := HA.out.fro
  go_wp2_with fail
  refine (l_toState _ _ _ cs _ _ (by first | exact HV.out | exact SB.drewN HV.out _ | exact SB.drew HV.out) hk0).mono ?_
  rintro z w5 ⟨⟨u5, rfl, hu5⟩, hb5⟩
  clear hcHA hfHA
  have hyy := hb5.size
  (try simp only [World.heap_drewN, World.size_drew] at hyy)
  have hzz := hbw.size
  replace HA := Lib.hid (BK.keep (by first | exact HA.out | exact BK.drewN HA.out _ | exact BK.drew HA.out) hb5)
  replace HV := Lib.hid (SB.keep (by first | exact HV.out | exact SB.drewN HV.out _ | exact SB.drew HV.out) hb5)
  replace hbw := Below.trans (by first | exact hbw | exact below_drewN hbw _ | exact Below.drew hbw) (Below.mono hb5 (by (try simp only [World.heap_drewN, World.size_drew]); omega))
  clear hb5 hyy hzz
  obtain ⟨uo5, uc5, rfl, hr5⟩ := hu5.sb.sl.slice
  clear hr5
  have HU5 := Lib.hid hu5.sb
  clear hu5
  have hcHA := HA.out.cells
  have hfHA := HA.out.fro
  go_wp2_with (clear hcHA hfHA; refine wpList_storeAgg (us := [.float .f32 l, .float .f32 s, .slice uo5 cs.length uc5, .int .i64 x]) (storeSt _ _ _ _ _ _ _ _) rfl rfl (by simp [Value.oneCell']) (BK.newAt (n := w5.heap.size) _ _ _ (by simp)) (by simp) ?_; intro WHX hB hO hL hZ hG; replace HA := Lib.hid (hO _ _ (BK.alloc (by first | exact HA.out | exact BK.drewN HA.out _ | exact BK.drew HA.out) _) (by have := HA.out.lt; (try simp only [World.heap_drewN] at this); omega)); replace HV := Lib.hid (SB.keep (by first | exact HV.out | exact SB.drewN HV.out _ | exact SB.drew HV.out) (hL _ _ (Below.alloc (Below.refl _ _) (Nat.le_refl _) _) (by (try simp only [World.heap_drewN]); omega))); replace HU5 := Lib.hid (SB.keep (by first | exact HU5.out | exact SB.drewN HU5.out _ | exact SB.drew HU5.out) (hL _ _ (Below.alloc (Below.refl _ _) (Nat.le_refl _) _) (by (try simp only [World.heap_drewN]); omega))); replace hbw := hL _ _ (Below.alloc hbw (by have := hbw.size; omega) _) (by have := hbw.size; omega); have HX := Lib.hid hB; clear hB hO hL hG hZ; simp [setsAt] at HX; have hcHA := HA.out.cells; have hcHX := HX.out.cells; have hfHA := HA.out.fro; have hfHX := HX.out.fro)
  refine (HI.out _ _ (by first | exact HU5.out | exact SB.drewN HU5.out _ | exact SB.drew HU5.out) (HDB.out _ hbw) (HTB.out _ hbw)).mono ?_
  rintro z w6 ⟨rfl, hb6⟩
  clear hcHA hfHA hcHX hfHX
  have hyy := hb6.size
  (try simp only [World.heap_drewN, World.size_drew] at hyy)
  have hzz := hbw.size
  replace HA := Lib.hid (BK.keep (by first | exact HA.out | exact BK.drewN HA.out _ | exact BK.drew HA.out) hb6)
  replace HX := Lib.hid (BK.keep (by first | exact HX.out | exact BK.drewN HX.out _ | exact BK.drew HX.out) hb6)
  replace HV := Lib.hid (SB.keep (by first | exact HV.out | exact SB.drewN HV.out _ | exact SB.drew HV.out) hb6)
  replace HU5 := Lib.hid (SB.keep (by first | exact HU5.out | exact SB.drewN HU5.out _ | exact SB.drew HU5.out) hb6)
  replace hbw := Below.trans (by first | exact hbw | exact below_drewN hbw _ | exact Below.drew hbw) (Below.mono hb6 (by (try simp only [World.heap_drewN, World.size_drew]); omega))
  clear hb6 hyy hzz
  have hcHA := HA.out.cells
  have hcHX := HX.out.cells
  have hfHA := HA.out.fro
  have hfHX := HX.out.fro
  go_wp2_with fail
  clear hcHA hfHA hcHX hfHX
  refine wp_region_held_drew (S := (fun W => (∀ i, i < 4 → W.cell? ⟨w.heap.size, i, none⟩ = ([.float .f32 l, .float .f32 s, .slice ao cs.length ac, .int .i64 x] : List Value)[i]?) ∧ (∀ i, i < 4 → W.cell? ⟨w5.heap.size, i, none⟩ = ([.float .f32 l, .float .f32 s, .slice uo5 cs.length uc5, .int .i64 x] : List Value)[i]?))) (by kernel_rfl) (by first | exact ⟨HA.out.cells, HX.out.cells⟩ | exact ⟨(BK.drew HA.out).cells, (BK.drew HX.out).cells⟩ | exact ⟨(BK.drewN HA.out _).cells, (BK.drewN HX.out _).cells⟩) (fun hH0 => ?_)
  refine wpAnyH_take (i := 0) (oi := { dst := some 35, op := Op.load 46 (Operand.tmp 6), type := 46, pos := "exact.go:6691", after := #[], guard := none }) (v := ?_) rfl (by kernel_rfl) (by kernel_rfl) (by kernel_rfl) (fun _ _ _ h => h) (Or.inl ⟨by rfl, ?_⟩) hH0 ?_
  rotate_left
  · (intro w hSw; (try dsimp only at hSw); go_simp; try with_reducible rfl)
  (try simp only [Act.put, List.setIfInBounds_toArray, List.set_cons_zero, List.set_cons_succ])
  refine wpAnyH_take (i := 1) (oi := { dst := some 36, op := Op.load 43 (Operand.tmp 1), type := 43, pos := "exact.go:6691", after := #[], guard := none }) (v := ?_) rfl (by kernel_rfl) (by kernel_rfl) (by kernel_rfl) (fun _ _ _ h => h) (Or.inl ⟨by rfl, ?_⟩) hH0 ?_
  rotate_left
  · (intro w hSw; (try dsimp only at hSw); go_simp; try with_reducible rfl)
  (try simp only [Act.put, List.setIfInBounds_toArray, List.set_cons_zero, List.set_cons_succ])
  refine wpAnyH_ready (rs := [2]) (by kernel_rfl) (by simp) (AllReadyH.cons (o := { dst := some 37, op := Op.call { callee := Callee.value (Operand.func 25), args := #[Operand.tmp 36], argTypes := #[43] }, type := 46, pos := "exact.go:6691", after := #[{ on := 1, ground := Ground.data }], guard := none }) rfl (fun K hK => ?e1) AllReadyH.nil)
  go_simp
  go_at_call 25
  refine (l_toState _ _ _ cs _ _ (by first | exact HV.out | exact SB.drewN HV.out _ | exact SB.drew HV.out) hk0).mono ?_
  rintro z w7 ⟨⟨u7, rfl, hu7⟩, hb7⟩
  have hyy := hb7.size
  (try simp only [World.heap_drewN, World.size_drew] at hyy)
  have hzz := hbw.size
  replace HA := Lib.hid (BK.keep (by first | exact HA.out | exact BK.drewN HA.out _ | exact BK.drew HA.out) hb7)
  replace HX := Lib.hid (BK.keep (by first | exact HX.out | exact BK.drewN HX.out _ | exact BK.drew HX.out) hb7)
  replace HV := Lib.hid (SB.keep (by first | exact HV.out | exact SB.drewN HV.out _ | exact SB.drew HV.out) hb7)
  replace HU5 := Lib.hid (SB.keep (by first | exact HU5.out | exact SB.drewN HU5.out _ | exact SB.drew HU5.out) hb7)
  replace hbw := Below.trans (by first | exact hbw | exact below_drewN hbw _ | exact Below.drew hbw) (Below.mono hb7 (by (try simp only [World.heap_drewN, World.size_drew]); omega))
  clear hb7 hyy hzz
  obtain ⟨uo7, uc7, rfl, hr7⟩ := hu7.sb.sl.slice
  clear hr7
  have HU7 := Lib.hid hu7.sb
  clear hu7
  refine hK.out _ _ (by first | exact ⟨HA.out.cells, HX.out.cells⟩ | exact ⟨(BK.drew HA.out).cells, (BK.drew HX.out).cells⟩ | exact ⟨(BK.drewN HA.out _).cells, (BK.drewN HX.out _).cells⟩) (fun hH1 => ?_)
  clear hK K hH0
  (try simp only [Act.put, List.setIfInBounds_toArray, List.set_cons_zero, List.set_cons_succ])
  refine wpAnyH_ready (rs := [3]) (by kernel_rfl) (by simp) (AllReadyH.cons (o := { dst := some 38, op := Op.call { callee := Callee.value (Operand.func 27), args := #[Operand.tmp 35, Operand.tmp 37], argTypes := #[46, 46] }, type := 4, pos := "exact.go:6691", after := #[{ on := 0, ground := Ground.data }, { on := 2, ground := Ground.data }, { on := 2, ground := Ground.chain }], guard := none }) rfl (fun K hK => ?e2) AllReadyH.nil)
  go_simp
  go_at_call 27
  refine (l_eqState _ _ _ _ _ _ cs _ rfl rfl _ (SB.sl (by first | exact HU5.out | exact SB.drewN HU5.out _ | exact SB.drew HU5.out)) (SB.sl (by first | exact HU7.out | exact SB.drewN HU7.out _ | exact SB.drew HU7.out))).mono ?_
  rintro z w9 ⟨rfl, hb9⟩
  have hyy := hb9.size
  (try simp only [World.heap_drewN, World.size_drew] at hyy)
  have hzz := hbw.size
  replace HA := Lib.hid (BK.keep (by first | exact HA.out | exact BK.drewN HA.out _ | exact BK.drew HA.out) hb9)
  replace HX := Lib.hid (BK.keep (by first | exact HX.out | exact BK.drewN HX.out _ | exact BK.drew HX.out) hb9)
  replace HV := Lib.hid (SB.keep (by first | exact HV.out | exact SB.drewN HV.out _ | exact SB.drew HV.out) hb9)
  replace hbw := Below.trans (by first | exact hbw | exact below_drewN hbw _ | exact Below.drew hbw) (Below.mono hb9 (by (try simp only [World.heap_drewN, World.size_drew]); omega))
  clear hb9 hyy hzz
  refine hK.out _ _ (by first | exact ⟨HA.out.cells, HX.out.cells⟩ | exact ⟨(BK.drew HA.out).cells, (BK.drew HX.out).cells⟩ | exact ⟨(BK.drewN HA.out _).cells, (BK.drewN HX.out _).cells⟩) (fun hH2 => ?_)
  clear hK K hH1
  (try simp only [Act.put, List.setIfInBounds_toArray, List.set_cons_zero, List.set_cons_succ])
  refine wpAnyH_take (i := 4) (oi := { dst := some 39, op := Op.unOp UnOp.not 4 (Operand.tmp 38), type := 4, pos := "exact.go:6691", after := #[{ on := 3, ground := Ground.data }], guard := none }) (v := ?_) rfl (by kernel_rfl) (by kernel_rfl) (by kernel_rfl) (fun _ _ _ h => h) (Or.inl ⟨by rfl, ?_⟩) hH2 ?_
  rotate_left
  · (intro w hSw; (try dsimp only at hSw); go_simp; try with_reducible rfl)
  (try simp only [Act.put, List.setIfInBounds_toArray, List.set_cons_zero, List.set_cons_succ])
  refine wpAnyH_done (by kernel_rfl) ?_ _
  clear hH2
  go_wp2_with fail
  go_ret
  exact ⟨rfl, by first | exact hbw | exact below_drewN hbw _ | exact Below.drew hbw⟩
set_option maxRecDepth 100000 in
theorem FnExactStateText_lifted (os : Os) (started : os.Started) (H : Type) (enc : TypeId × Value → H) :
    ReturnsInHanded {} Tryd.checked os 7 .any (fun w args => (Rows.fnExactStateTextSpec.pre enc Tryd.prog Tryd.f7 [] false w args ∧ laidMetH Tryd.prog laidT w) ∧ sizedMet enc Tryd.prog Tryd.f7 (OpenSpec.ofChange Rows.fnExactStateTextSpec) false w args)
      (Rows.fnExactStateTextSpec.post enc Tryd.prog Tryd.f7 false true false false) := by
  refine change_and_shaped (C := Tryd.checked) (X := fun w _ => laidMetH Tryd.prog laidT w) (fun _ _ _ hh h => h.of_heap hh) own started (by kernel_rfl) Tryd.func7
    (ChangeSpec.witness_shaped (enc := enc) (C := Tryd.checked) (os := os) (X := fun w _ => laidMetH Tryd.prog laidT w) false (World.doorLaid Tryd.prog 400 os) #[.agg #[.float .f32 0, .float .f32 0, .slice none 0 0, .int .i64 0]] 8 rfl (World.shaped_of_RefB (by kernel_rfl) (by kernel_rfl)) (by kernel_rfl) (by kernel_rfl) (by kernel_rfl) (door_met os _)) ?_
  intro W base args ds gs before hval0 hW hL hsh
  have htab := tab_of_laid hL
  have hdb := deB_of_laid hL
  obtain ⟨mx, hmx⟩ := max_of_shape hsh
  have hval : ∀ (j : Nat) t v, Tryd.f7.params[j]? = some t → args[j]? = some v → Value.okWide Tryd.prog W .any base t v := hval0
  have hW' := hW
  obtain ⟨p, q, hA0, hV, rfl, hfz, hnd⟩ := hW
  have hA : DataW.TrodAll enc Tryd.prog W 0 (fun _ => true) true Tryd.f7.params.toList args.toList ds p := hA0
  rw [Tryd.params7] at hA hval
  obtain ⟨v0, vs0, d0, ds0, p0, q0, hargs, rfl, rfl, h0, r0⟩ := trodAll_cons hA
  obtain ⟨rfl, rfl, rfl⟩ := trodAll_nil r0
  obtain rfl : args = #[v0] := by cases args; simp_all
  obtain ⟨rfl, rfl⟩ := trodVars_none hV
  have k0 := h0
  have lt0 : ∀ x ∈ p0, x.block < W.heap.size := by obtain ⟨m, hm⟩ := k0; exact DataW.trod_lt m _ _ _ hm
  obtain ⟨vs0, n0, rfl, hl0, hg0⟩ := open_struct Tryd.underlying43 (by kernel_rfl) (by kernel_rfl) (hval 0 43 v0 rfl rfl) h0
  obtain ⟨u00, y00, e00, z00⟩ := hg0 0 _ rfl; obtain ⟨x00, q00, _, w00⟩ := trod_float Tryd.underlying34 z00; simp only [List.cons.injEq, and_true] at q00; subst q00
  obtain ⟨u01, y01, e01, z01⟩ := hg0 1 _ rfl; obtain ⟨x01, q01, _, w01⟩ := trod_float Tryd.underlying34 z01; simp only [List.cons.injEq, and_true] at q01; subst q01
  obtain ⟨u02, y02, e02, z02⟩ := hg0 2 _ rfl; obtain ⟨c0, hc0⟩ := open_f32s Tryd.underlying41 Tryd.underlying34 (by kernel_rfl) z02
  obtain ⟨u03, y03, e03, z03⟩ := hg0 3 _ rfl; obtain ⟨d0', q03, hd0⟩ := trod_int' Tryd.underlying2 z03; simp only [List.cons.injEq, and_true] at q03; subst q03
  obtain rfl : vs0 = [.float .f32 x00, .float .f32 x01, u02, .int .i64 d0'] := four hl0 e00 e01 e02 e03
  clear hA0 hval0
  refine (FnExactStateText_walk (w := W) htab hdb x00 (f32_lt w00) x01 (f32_lt w01) _ c0 hc0 d0').mono fun e W' ⟨he, bel⟩ => ?_
  subst he
  exact ⟨_, rfl, _, _, _, [], _, [], hW', trodAll_mk1 (shut_bool Tryd.underlying4 _), (trodAll_cons_mk (Below.trod laidOut (by kernel_rfl) (of_decide_eq_true (by kernel_rfl)) k0 bel lt0) trodAll_mk0), rfl, bel.frame _, fun h => by cases h⟩

theorem fnExactStateText_row : Rows.FnExactStateTextSaid :=
  OpenClaim.holds_of_wide 7 Tryd.f7 rfl rfl rfl rfl rfl rfl rfl ⟨rfl, rfl, rfl, rfl, rfl⟩ rfl rfl rfl rfl rfl (by kernel_rfl) Tryd.func7 (by kernel_rfl)
    (of_decide_eq_true (by kernel_rfl)) (by unfold Func.isWrapper; first | (rw [if_pos (by decide +kernel)]; kernel_rfl) | (rw [if_neg (by decide +kernel)]; exact ⟨rfl, rfl⟩))
    (fun os started H enc _ => FnExactStateText_lifted os started H enc)
/-- The tied card. -/
theorem fnExactStateText_holds : Rows.FnExactStateTextCardSaid :=
  Claim7.holds_tied_plain_at .later [] [.data, .data, .data] true (true, "c7074ca69b511a19f7163cb84a4d6b1ee99fd0aecb37ccae4d191d2e8714b97b") true
    fnExactStateText_row (fun _ h => by cases h) (by kernel_rfl) (fun _ h => by cases h) fnExactStateText_row_tie rfl ⟨rfl, rfl⟩ (by kernel_rfl) rfl
    (fun f fn hf hfn => by
      obtain rfl : f = 7 := Option.some.inj ((show Tryd.prog.funcNamed "loop.example/g01375/laws.FnExactStateText" = some 7 by kernel_rfl).symm.trans hf) |>.symm
      obtain rfl : fn = Tryd.f7 := (Option.some.inj (Tryd.func7.symm.trans hfn)).symm
      exact ⟨by kernel_rfl, fun j t ht => by
        rw [Tryd.params7] at ht
        have hm : t ∈ [43] := by simpa using Array.mem_of_getElem? ht
        have hall : ([43].all fun u => !Tryd.prog.wantsStandIn u) = true := by kernel_rfl
        exact (show Tryd.prog.wantsStandIn t = false by simpa using List.all_eq_true.1 hall t hm)⟩)
    (by kernel_rfl)
#print axioms fnExactStateText_holds

end Go.Proofs.YtebahccjaieajaaDoor
