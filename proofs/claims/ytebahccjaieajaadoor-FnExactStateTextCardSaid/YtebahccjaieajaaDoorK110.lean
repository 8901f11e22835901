/- Contracts: the text of a state, by the reference. Written by wip/mk110.py. -/
import Derived.Test.YtebahccjaieajaaDoorK109
import Derived.Deep.RegionHeld3
import Derived.Deep.QuietTactic
import Derived.BigQuiet
namespace Go.Proofs.YtebahccjaieajaaDoor
set_option linter.unusedSimpArgs false
set_option linter.unusedVariables false
set_option maxRecDepth 100000
set_option maxHeartbeats 4000000
open Go.RowKit
attribute [local go_sem] run_store_float run_store_complex alloc_drewN setCell_drewN


set_option maxRecDepth 100000 in
theorem s_l08State (p : Nat) (l s : Nat) (hl : ∀ x ∈ [l, s], x < 4294967296) (v : Value) (cs : List Nat) (x : Int) (w : World) (hp : p < w.heap.size) (hv : SB w v cs)
    (h1 : w.cell? ⟨p, 0, none⟩ = some (.float .f32 l)) (h2 : w.cell? ⟨p, 1, none⟩ = some (.float .f32 s)) (h3 : w.cell? ⟨p, 2, none⟩ = some v) (h4 : w.cell? ⟨p, 3, none⟩ = some (.int .i64 x)) (hcs : cs.length ≤ 24) (hx0 : 0 ≤ x) (hx1 : x ≤ 23) :
    Calls Tryd.prog 51 #[.pointer (some ⟨p, 0, none⟩)] w fun z w' => z = .returned (.string (tx (stTx l s cs x))) ∧ Below w.heap.size w w' := by
  obtain ⟨ao, c, rfl, hlen⟩ := hv.sl.slice
  have HL := Lib.hid hl
  have HSV := Lib.hid hv
  clear hl hv
  have m1 := World.new_ne w _ h1
  have m2 := World.new_ne w _ h2
  have m3 := World.new_ne w _ h3
  have m4 := World.new_ne w _ h4
  have HX := Lib.hid (stTx_tx l s cs x)
  generalize tx (stTx l s cs x) = T at HX ⊢
  have z1 : (tx (hxAll ([l, s].map (cn .f32)))).size ≤ 1000000 := by rw [tx_size]; exact hxAll_len _ (by simp)
  have z2 : (tx (hxAll cs)).size ≤ 1000000 := by rw [tx_size]; exact hxAll_len _ (by omega)
  have z3 : (tx (Lib.itoa x)).size ≤ 1000000 := by rw [tx_size]; have := itoa_le (n := x) (by omega) (by omega); omega
  have HN1 := Lib.hid (fun w v hv => s_l01NText v ([l, s].map (cn .f32)) w hv (by simp))
  have HN2 := Lib.hid (fun w v hv => s_l01NText v cs w hv (by omega))
  have HD := Lib.hid (fun w => s_l01Dec x (by omega) (by omega) w)
  generalize tx (hxAll ([l, s].map (cn .f32))) = t1 at *
  generalize tx (hxAll cs) = t2 at *
  generalize tx (Lib.itoa x) = t3 at *
  have n0 : ¬ 9223372036854775807 < t1.size + 1 := by omega
  have n2 : ¬ 9223372036854775807 < t1.size + 1 + t2.size := by omega
  have n3 : ¬ 9223372036854775807 < t1.size + 1 + t2.size + 1 := by omega
  have n4 : ¬ 9223372036854775807 < t1.size + 1 + t2.size + 1 + t3.size := by omega
  go_enter Tryd.func51, Tryd.ntmps51
  go_wp2_with fail
  refine wp_region_held_drew (S := (fun W => W.cell? ⟨p, 0, none⟩ = some (.float .f32 l) ∧ W.cell? ⟨p, 1, none⟩ = some (.float .f32 s) ∧ W.cell? ⟨p, 2, none⟩ = some (.slice ao cs.length c) ∧ W.cell? ⟨p, 3, none⟩ = some (.int .i64 x))) (by kernel_rfl) (by first | (simp; done) | (simp [*]; done) | go_keep) (fun hH0 => ?_)
  refine wpAnyH_take (i := 0) (oi := { dst := some 3, op := Op.move (Operand.tmp 0), type := 86, pos := "l08_desk.go:33", after := #[], guard := none }) (v := ?_) rfl (by kernel_rfl) (by kernel_rfl) (by kernel_rfl) (fun _ _ _ h => h) (Or.inl ⟨by rfl, ?_⟩) hH0 ?_
  rotate_left
  · (intro w hSw; (try dsimp only at hSw); go_simp; try with_reducible rfl)
  (try simp only [Act.put, List.setIfInBounds_toArray, List.set_cons_zero, List.set_cons_succ])
  refine wpAnyH_take (i := 1) (oi := { dst := some 4, op := Op.nilCheck (Operand.tmp 3), type := 0, pos := "l08_desk.go:33", after := #[{ on := 0, ground := Ground.data }], guard := none }) (v := ?_) rfl (by kernel_rfl) (by kernel_rfl) (by kernel_rfl) (fun _ _ _ h => h) (Or.inl ⟨by rfl, ?_⟩) hH0 ?_
  rotate_left
  · (intro w hSw; (try dsimp only at hSw); go_simp; try with_reducible rfl)
  (try simp only [Act.put, List.setIfInBounds_toArray, List.set_cons_zero, List.set_cons_succ])
  refine wpAnyH_take (i := 2) (oi := { dst := some 5, op := Op.fieldAddr 46 (Operand.tmp 4) 0, type := 0, pos := "l08_desk.go:33", after := #[{ on := 1, ground := Ground.data }], guard := none }) (v := ?_) rfl (by kernel_rfl) (by kernel_rfl) (by kernel_rfl) (fun _ _ _ h => h) (Or.inl ⟨by rfl, ?_⟩) hH0 ?_
  rotate_left
  · (intro w hSw; (try dsimp only at hSw); go_simp; try with_reducible rfl)
  (try simp only [Act.put, List.setIfInBounds_toArray, List.set_cons_zero, List.set_cons_succ])
  refine wpAnyH_take (i := 3) (oi := { dst := some 6, op := Op.load 34 (Operand.tmp 5), type := 34, pos := "l08_desk.go:33", after := #[{ on := 2, ground := Ground.data }], guard := none }) (v := ?_) rfl (by kernel_rfl) (by kernel_rfl) (by kernel_rfl) (fun _ _ _ h => h) (Or.inl ⟨by rfl, ?_⟩) hH0 ?_
  rotate_left
  · (intro w hSw; (try dsimp only at hSw); go_simp; try with_reducible rfl)
  (try simp only [Act.put, List.setIfInBounds_toArray, List.set_cons_zero, List.set_cons_succ])
  refine wpAnyH_take (i := 4) (oi := { dst := some 7, op := Op.move (Operand.tmp 0), type := 86, pos := "l08_desk.go:33", after := #[], guard := none }) (v := ?_) rfl (by kernel_rfl) (by kernel_rfl) (by kernel_rfl) (fun _ _ _ h => h) (Or.inl ⟨by rfl, ?_⟩) hH0 ?_
  rotate_left
  · (intro w hSw; (try dsimp only at hSw); go_simp; try with_reducible rfl)
  (try simp only [Act.put, List.setIfInBounds_toArray, List.set_cons_zero, List.set_cons_succ])
  refine wpAnyH_take (i := 5) (oi := { dst := some 8, op := Op.nilCheck (Operand.tmp 7), type := 0, pos := "l08_desk.go:33", after := #[{ on := 4, ground := Ground.data }], guard := none }) (v := ?_) rfl (by kernel_rfl) (by kernel_rfl) (by kernel_rfl) (fun _ _ _ h => h) (Or.inl ⟨by rfl, ?_⟩) hH0 ?_
  rotate_left
  · (intro w hSw; (try dsimp only at hSw); go_simp; try with_reducible rfl)
  (try simp only [Act.put, List.setIfInBounds_toArray, List.set_cons_zero, List.set_cons_succ])
  refine wpAnyH_take (i := 6) (oi := { dst := some 9, op := Op.fieldAddr 46 (Operand.tmp 8) 1, type := 0, pos := "l08_desk.go:33", after := #[{ on := 5, ground := Ground.data }], guard := none }) (v := ?_) rfl (by kernel_rfl) (by kernel_rfl) (by kernel_rfl) (fun _ _ _ h => h) (Or.inl ⟨by rfl, ?_⟩) hH0 ?_
  rotate_left
  · (intro w hSw; (try dsimp only at hSw); go_simp; try with_reducible rfl)
  (try simp only [Act.put, List.setIfInBounds_toArray, List.set_cons_zero, List.set_cons_succ])
  refine wpAnyH_take (i := 7) (oi := { dst := some 10, op := Op.load 34 (Operand.tmp 9), type := 34, pos := "l08_desk.go:33", after := #[{ on := 6, ground := Ground.data }], guard := none }) (v := ?_) rfl (by kernel_rfl) (by kernel_rfl) (by kernel_rfl) (fun _ _ _ h => h) (Or.inl ⟨by rfl, ?_⟩) hH0 ?_
  rotate_left
  · (intro w hSw; (try dsimp only at hSw); go_simp; try with_reducible rfl)
  (try simp only [Act.put, List.setIfInBounds_toArray, List.set_cons_zero, List.set_cons_succ])
  refine wpAnyH_take (i := 11) (oi := { dst := some 14, op := Op.move (Operand.tmp 0), type := 86, pos := "l08_desk.go:33", after := #[], guard := none }) (v := ?_) rfl (by kernel_rfl) (by kernel_rfl) (by kernel_rfl) (fun _ _ _ h => h) (Or.inl ⟨by rfl, ?_⟩) hH0 ?_
  rotate_left
  · (intro w hSw; (try dsimp only at hSw); go_simp; try with_reducible rfl)
  (try simp only [Act.put, List.setIfInBounds_toArray, List.set_cons_zero, List.set_cons_succ])
  refine wpAnyH_take (i := 12) (oi := { dst := some 15, op := Op.nilCheck (Operand.tmp 14), type := 0, pos := "l08_desk.go:33", after := #[{ on := 11, ground := Ground.data }], guard := none }) (v := ?_) rfl (by kernel_rfl) (by kernel_rfl) (by kernel_rfl) (fun _ _ _ h => h) (Or.inl ⟨by rfl, ?_⟩) hH0 ?_
  rotate_left
  · (intro w hSw; (try dsimp only at hSw); go_simp; try with_reducible rfl)
  (try simp only [Act.put, List.setIfInBounds_toArray, List.set_cons_zero, List.set_cons_succ])
  refine wpAnyH_take (i := 13) (oi := { dst := some 16, op := Op.fieldAddr 46 (Operand.tmp 15) 2, type := 0, pos := "l08_desk.go:33", after := #[{ on := 12, ground := Ground.data }], guard := none }) (v := ?_) rfl (by kernel_rfl) (by kernel_rfl) (by kernel_rfl) (fun _ _ _ h => h) (Or.inl ⟨by rfl, ?_⟩) hH0 ?_
  rotate_left
  · (intro w hSw; (try dsimp only at hSw); go_simp; try with_reducible rfl)
  (try simp only [Act.put, List.setIfInBounds_toArray, List.set_cons_zero, List.set_cons_succ])
  refine wpAnyH_take (i := 14) (oi := { dst := some 17, op := Op.load 41 (Operand.tmp 16), type := 41, pos := "l08_desk.go:33", after := #[{ on := 13, ground := Ground.data }], guard := none }) (v := ?_) rfl (by kernel_rfl) (by kernel_rfl) (by kernel_rfl) (fun _ _ _ h => h) (Or.inl ⟨by rfl, ?_⟩) hH0 ?_
  rotate_left
  · (intro w hSw; (try dsimp only at hSw); go_simp; try with_reducible rfl)
  (try simp only [Act.put, List.setIfInBounds_toArray, List.set_cons_zero, List.set_cons_succ])
  refine wpAnyH_take (i := 18) (oi := { dst := some 21, op := Op.move (Operand.tmp 0), type := 86, pos := "l08_desk.go:33", after := #[], guard := none }) (v := ?_) rfl (by kernel_rfl) (by kernel_rfl) (by kernel_rfl) (fun _ _ _ h => h) (Or.inl ⟨by rfl, ?_⟩) hH0 ?_
  rotate_left
  · (intro w hSw; (try dsimp only at hSw); go_simp; try with_reducible rfl)
  (try simp only [Act.put, List.setIfInBounds_toArray, List.set_cons_zero, List.set_cons_succ])
  refine wpAnyH_take (i := 19) (oi := { dst := some 22, op := Op.nilCheck (Operand.tmp 21), type := 0, pos := "l08_desk.go:33", after := #[{ on := 18, ground := Ground.data }], guard := none }) (v := ?_) rfl (by kernel_rfl) (by kernel_rfl) (by kernel_rfl) (fun _ _ _ h => h) (Or.inl ⟨by rfl, ?_⟩) hH0 ?_
  rotate_left
  · (intro w hSw; (try dsimp only at hSw); go_simp; try with_reducible rfl)
  (try simp only [Act.put, List.setIfInBounds_toArray, List.set_cons_zero, List.set_cons_succ])
  refine wpAnyH_take (i := 20) (oi := { dst := some 23, op := Op.fieldAddr 46 (Operand.tmp 22) 3, type := 0, pos := "l08_desk.go:33", after := #[{ on := 19, ground := Ground.data }], guard := none }) (v := ?_) rfl (by kernel_rfl) (by kernel_rfl) (by kernel_rfl) (fun _ _ _ h => h) (Or.inl ⟨by rfl, ?_⟩) hH0 ?_
  rotate_left
  · (intro w hSw; (try dsimp only at hSw); go_simp; try with_reducible rfl)
  (try simp only [Act.put, List.setIfInBounds_toArray, List.set_cons_zero, List.set_cons_succ])
  refine wpAnyH_take (i := 21) (oi := { dst := some 24, op := Op.load 2 (Operand.tmp 23), type := 2, pos := "l08_desk.go:33", after := #[{ on := 20, ground := Ground.data }], guard := none }) (v := ?_) rfl (by kernel_rfl) (by kernel_rfl) (by kernel_rfl) (fun _ _ _ h => h) (Or.inl ⟨by rfl, ?_⟩) hH0 ?_
  rotate_left
  · (intro w hSw; (try dsimp only at hSw); go_simp; try with_reducible rfl)
  (try simp only [Act.put, List.setIfInBounds_toArray, List.set_cons_zero, List.set_cons_succ])
  refine wpAnyH_ready (rs := [8]) (by kernel_rfl) (by simp) (AllReadyH.cons (o := { dst := some 11, op := Op.buildSlice 41 2 #[(0, Operand.tmp 6), (1, Operand.tmp 10)], type := 41, pos := "l08_desk.go:33", after := #[{ on := 3, ground := Ground.data }, { on := 7, ground := Ground.data }], guard := none }) rfl (fun K hK => ?e1) AllReadyH.nil)
  go_simp
  refine hK.out _ _ (by first | (simp; done) | (simp [*]; done) | go_keep) (fun hH1 => ?_)
  clear hK K hH0
  (try simp only [Act.put, List.setIfInBounds_toArray, List.set_cons_zero, List.set_cons_succ])
  refine wpAnyH_ready (rs := [9]) (by kernel_rfl) (by simp) (AllReadyH.cons (o := { dst := some 12, op := Op.call { callee := Callee.value (Operand.func 44), args := #[Operand.tmp 11], argTypes := #[41] }, type := 9, pos := "l08_desk.go:33", after := #[{ on := 8, ground := Ground.data }], guard := none }) rfl (fun K hK => ?e2) AllReadyH.nil)
  go_simp
  go_at_call 44
  refine (HN1.out _ _ (by first | exact SB.lit _ [l, s] _ _ (by simp) HL.out rfl rfl | exact SB.lit _ [l, s] _ _ (by simp) HL.out rfl (by simp) | exact SB.drewN (SB.lit _ [l, s] _ _ (by simp) HL.out rfl (by simp)) _)).mono ?_
  rintro z w1 ⟨rfl, hb1⟩
  have hz1 := hb1.size; (try simp only [World.size_alloc, World.size_drew, World.heap_drewN, World.size_setCell] at hz1); have hp1 : w.heap.size + 0 ≤ w1.heap.size := (by omega); obtain ⟨hc1, hf1⟩ := bcellN (N := w.heap.size + 0) hb1 (by first | omega | (simp; done) | (simp; omega))
  refine hK.out _ _ (by first | (simp; done) | (simp [*]; done) | go_keep) (fun hH2 => ?_)
  clear hK K hH1
  (try simp only [Act.put, List.setIfInBounds_toArray, List.set_cons_zero, List.set_cons_succ])
  refine wpAnyH_take (i := 10) (oi := { dst := some 13, op := Op.binOp BinOp.add 9 (Operand.tmp 12) (Operand.const (Value.string { data := #[59] })) 9, type := 9, pos := "l08_desk.go:33", after := #[{ on := 9, ground := Ground.data }], guard := none }) (v := ?_) rfl (by kernel_rfl) (by kernel_rfl) (by kernel_rfl) (fun _ _ _ h => h) (Or.inl ⟨by rfl, ?_⟩) hH2 ?_
  rotate_left
  · (intro w hSw; (try dsimp only at hSw); go_simp; try with_reducible rfl)
  (try simp only [Act.put, List.setIfInBounds_toArray, List.set_cons_zero, List.set_cons_succ])
  refine wpAnyH_ready (rs := [15]) (by kernel_rfl) (by simp) (AllReadyH.cons (o := { dst := some 18, op := Op.call { callee := Callee.value (Operand.func 44), args := #[Operand.tmp 17], argTypes := #[41] }, type := 9, pos := "l08_desk.go:33", after := #[{ on := 14, ground := Ground.data }, { on := 9, ground := Ground.chain }], guard := none }) rfl (fun K hK => ?e3) AllReadyH.nil)
  go_simp
  go_at_call 44
  refine (HN2.out _ _ (HSV.out.keep (by (repeat (first | with_reducible exact Below.refl _ _ | with_reducible assumption | with_reducible refine below_drewN ?_ _ | with_reducible refine Below.drew ?_ | with_reducible refine Below.alloc ?_ (by first | omega | (simp; omega) | (simp; done) | (simp at *; omega)) _ | with_reducible refine Below.setCell ?_ (by first | omega | (simp; omega) | (simp; done) | (simp at *; omega)) _ | refine Below.trans ?_ (Below.mono (by with_reducible assumption) (by first | omega | (simp; omega) | (simp; done) | (simp at *; omega)))))))).mono ?_
  rintro z w2 ⟨rfl, hb2⟩
  have hz2 := hb2.size; (try simp only [World.size_alloc, World.size_drew, World.heap_drewN, World.size_setCell] at hz2); have hp2 : w.heap.size + 0 ≤ w2.heap.size := (by omega); obtain ⟨hc2, hf2⟩ := bcellN (N := w.heap.size + 0) hb2 (by first | omega | (simp; done) | (simp; omega))
  refine hK.out _ _ (by first | (simp; done) | (simp [*]; done) | go_keep) (fun hH3 => ?_)
  clear hK K hH2
  (try simp only [Act.put, List.setIfInBounds_toArray, List.set_cons_zero, List.set_cons_succ])
  refine wpAnyH_take (i := 16) (oi := { dst := some 19, op := Op.binOp BinOp.add 9 (Operand.tmp 13) (Operand.tmp 18) 9, type := 9, pos := "l08_desk.go:33", after := #[{ on := 10, ground := Ground.data }, { on := 15, ground := Ground.data }], guard := none }) (v := ?_) rfl (by kernel_rfl) (by kernel_rfl) (by kernel_rfl) (fun _ _ _ h => h) (Or.inl ⟨by rfl, ?_⟩) hH3 ?_
  rotate_left
  · (intro w hSw; (try dsimp only at hSw); go_simp; try with_reducible rfl)
  (try simp only [Act.put, List.setIfInBounds_toArray, List.set_cons_zero, List.set_cons_succ])
  refine wpAnyH_take (i := 17) (oi := { dst := some 20, op := Op.binOp BinOp.add 9 (Operand.tmp 19) (Operand.const (Value.string { data := #[59] })) 9, type := 9, pos := "l08_desk.go:33", after := #[{ on := 16, ground := Ground.data }], guard := none }) (v := ?_) rfl (by kernel_rfl) (by kernel_rfl) (by kernel_rfl) (fun _ _ _ h => h) (Or.inl ⟨by rfl, ?_⟩) hH3 ?_
  rotate_left
  · (intro w hSw; (try dsimp only at hSw); go_simp; try with_reducible rfl)
  (try simp only [Act.put, List.setIfInBounds_toArray, List.set_cons_zero, List.set_cons_succ])
  refine wpAnyH_ready (rs := [22]) (by kernel_rfl) (by simp) (AllReadyH.cons (o := { dst := some 25, op := Op.call { callee := Callee.value (Operand.func 61), args := #[Operand.tmp 24], argTypes := #[2] }, type := 9, pos := "l08_desk.go:33", after := #[{ on := 21, ground := Ground.data }, { on := 15, ground := Ground.chain }], guard := none }) rfl (fun K hK => ?e4) AllReadyH.nil)
  go_simp
  go_at_call 61
  refine (HD.out _).mono ?_
  rintro z w3 ⟨rfl, hb3⟩
  have hz3 := hb3.size; (try simp only [World.size_alloc, World.size_drew, World.heap_drewN, World.size_setCell] at hz3); have hp3 : w.heap.size + 0 ≤ w3.heap.size := (by omega); obtain ⟨hc3, hf3⟩ := bcellN (N := w.heap.size + 0) hb3 (by first | omega | (simp; done) | (simp; omega))
  refine hK.out _ _ (by first | (simp; done) | (simp [*]; done) | go_keep) (fun hH4 => ?_)
  clear hK K hH3
  (try simp only [Act.put, List.setIfInBounds_toArray, List.set_cons_zero, List.set_cons_succ])
  refine wpAnyH_take (i := 23) (oi := { dst := some 26, op := Op.binOp BinOp.add 9 (Operand.tmp 20) (Operand.tmp 25) 9, type := 9, pos := "l08_desk.go:33", after := #[{ on := 17, ground := Ground.data }, { on := 22, ground := Ground.data }], guard := none }) (v := ?_) rfl (by kernel_rfl) (by kernel_rfl) (by kernel_rfl) (fun _ _ _ h => h) (Or.inl ⟨by rfl, ?_⟩) hH4 ?_
  rotate_left
  · (intro w hSw; (try dsimp only at hSw); go_simp; try with_reducible rfl)
  (try simp only [Act.put, List.setIfInBounds_toArray, List.set_cons_zero, List.set_cons_succ])
  refine wpAnyH_take (i := 24) (oi := { dst := some 2, op := Op.assign (Operand.tmp 26), type := 9, pos := "l08_desk.go:33", after := #[{ on := 23, ground := Ground.data }, { on := 22, ground := Ground.chain }, { on := 0, ground := Ground.phase }, { on := 1, ground := Ground.phase }, { on := 2, ground := Ground.phase }, { on := 3, ground := Ground.phase }, { on := 4, ground := Ground.phase }, { on := 5, ground := Ground.phase }, { on := 6, ground := Ground.phase }, { on := 7, ground := Ground.phase }, { on := 8, ground := Ground.phase }, { on := 9, ground := Ground.phase }, { on := 10, ground := Ground.phase }, { on := 11, ground := Ground.phase }, { on := 12, ground := Ground.phase }, { on := 13, ground := Ground.phase }, { on := 14, ground := Ground.phase }, { on := 15, ground := Ground.phase }, { on := 16, ground := Ground.phase }, { on := 17, ground := Ground.phase }, { on := 18, ground := Ground.phase }, { on := 19, ground := Ground.phase }, { on := 20, ground := Ground.phase }, { on := 21, ground := Ground.phase }, { on := 22, ground := Ground.phase }, { on := 23, ground := Ground.phase }], guard := none }) (v := ?_) rfl (by kernel_rfl) (by kernel_rfl) (by kernel_rfl) (fun _ _ _ h => h) (Or.inl ⟨by rfl, ?_⟩) hH4 ?_
  rotate_left
  · (intro w hSw; (try dsimp only at hSw); go_simp; try with_reducible rfl)
  (try simp only [Act.put, List.setIfInBounds_toArray, List.set_cons_zero, List.set_cons_succ])
  refine wpAnyH_done (by kernel_rfl) ?_ _
  clear hH4
  go_wp2_with fail
  go_ret
  exact ⟨by rw [← HX.out]; rfl, by (repeat (first | with_reducible exact Below.refl _ _ | with_reducible assumption | with_reducible refine below_drewN ?_ _ | with_reducible refine Below.drew ?_ | with_reducible refine Below.alloc ?_ (by first | omega | (simp; omega) | (simp; done) | (simp at *; omega)) _ | with_reducible refine Below.setCell ?_ (by first | omega | (simp; omega) | (simp; done) | (simp at *; omega)) _ | refine Below.trans ?_ (Below.mono (by with_reducible assumption) (by first | omega | (simp; omega) | (simp; done) | (simp at *; omega)))))⟩

end Go.Proofs.YtebahccjaieajaaDoor
