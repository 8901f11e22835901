/- Contracts: which states are the same, by the reference. -/
import Derived.Test.YtfckfdaloamkdaaK33
import Derived.Deep.RegionHeld3
import Derived.Deep.QuietTactic
import Derived.BigQuiet
namespace Go.Proofs.Ytfckfdaloamkdaa
set_option linter.unusedSimpArgs false
set_option linter.unusedVariables false
set_option maxRecDepth 100000
set_option maxHeartbeats 4000000
open Go.RowKit
attribute [local go_sem] run_store_float run_store_complex alloc_drewN setCell_drewN

theorem two_same (l s l' s' : Nat) : ([l, s] == [l', s']) = (same l l' && same s s') := by
  rw [Bool.eq_iff_iff]
  simp [same]

theorem s_l04Same (p q : Nat) (l s l' s' : Nat) (hl : l < 4294967296) (hs : s < 4294967296) (hl' : l' < 4294967296) (hs' : s' < 4294967296) (u v : Value) (cs ds : List Nat) (x x' : Int) (w : World) (hp : p < w.heap.size) (hq : q < w.heap.size)
    (a1 : w.cell? ⟨p, 1, none⟩ = some (.float .f32 l)) (a2 : w.cell? ⟨p, 2, none⟩ = some (.float .f32 s)) (a3 : w.cell? ⟨p, 3, none⟩ = some u) (a4 : w.cell? ⟨p, 4, none⟩ = some (.int .i64 x))
    (b1 : w.cell? ⟨q, 1, none⟩ = some (.float .f32 l')) (b2 : w.cell? ⟨q, 2, none⟩ = some (.float .f32 s')) (b3 : w.cell? ⟨q, 3, none⟩ = some v) (b4 : w.cell? ⟨q, 4, none⟩ = some (.int .i64 x')) (hu : SB w u cs) (hv : SB w v ds) :
    Calls Try.prog 81 #[.pointer (some ⟨p, 1, none⟩), .pointer (some ⟨q, 1, none⟩)] w fun e w' => e = .returned (.bool (stSame (cn .f32 l) (cn .f32 l') (cn .f32 s) (cn .f32 s') x x' cs ds)) ∧ Below w.heap.size w w' := by
  have HU := Lib.hid hu
  have HV := Lib.hid hv
  obtain ⟨ao, c, rfl, hlen⟩ := hu.sl.slice
  obtain ⟨bo, d, rfl, hlen2⟩ := hv.sl.slice
  clear hu hv
  by_cases hx : x = x'
  · subst hx
    cases hsame : (([l, s].map (cn .f32)) == ([l', s'].map (cn .f32)))
    · have HSA := Lib.hid hsame
      clear hsame
      have HL1 := Lib.hid (fun (o : Obj) => show SB ((w.alloc (.cells #[.float .f32 l, .float .f32 s] 54)).alloc o) (.slice (some ⟨w.heap.size, 0, none⟩) 2 2) ([l, s].map (cn .f32)) from SB.keep (SB.lit w [l, s] 54 (0, 0) (by simp) (by simp; exact ⟨hl, hs⟩) rfl rfl) ((Below.refl _ _).alloc (Nat.le_refl _) o))
      have HL2 := Lib.hid (fun (o : Obj) => show SB ((w.alloc o).alloc (.cells #[.float .f32 l, .float .f32 s] 54)) (.slice (some ⟨w.heap.size + 1, 0, none⟩) 2 2) ([l, s].map (cn .f32)) from SB.lit (w.alloc o) [l, s] 54 (0, 0) (by simp) (by simp; exact ⟨hl, hs⟩) rfl (by simp))
      have HM1 := Lib.hid (fun (o : Obj) => show SB ((w.alloc (.cells #[.float .f32 l', .float .f32 s'] 54)).alloc o) (.slice (some ⟨w.heap.size, 0, none⟩) 2 2) ([l', s'].map (cn .f32)) from SB.keep (SB.lit w [l', s'] 54 (0, 0) (by simp) (by simp; exact ⟨hl', hs'⟩) rfl rfl) ((Below.refl _ _).alloc (Nat.le_refl _) o))
      have HM2 := Lib.hid (fun (o : Obj) => show SB ((w.alloc o).alloc (.cells #[.float .f32 l', .float .f32 s'] 54)) (.slice (some ⟨w.heap.size + 1, 0, none⟩) 2 2) ([l', s'].map (cn .f32)) from SB.lit (w.alloc o) [l', s'] 54 (0, 0) (by simp) (by simp; exact ⟨hl', hs'⟩) rfl (by simp))
      have m1 := World.new_ne w _ a1
      have m2 := World.new_ne w _ b1
      have m3 : p < w.heap.size := hp
      have m4 : q < w.heap.size := hq
      go_enter Try.func81, Try.ntmps81
      go_wp2_with fail
      refine wp_region_held_drew (S := (fun W => W.cell? ⟨p, 1, none⟩ = some (.float .f32 l) ∧ W.cell? ⟨p, 2, none⟩ = some (.float .f32 s) ∧ W.cell? ⟨p, 3, none⟩ = some (Value.slice ao cs.length c) ∧ W.cell? ⟨p, 4, none⟩ = some (.int .i64 x) ∧ W.cell? ⟨q, 1, none⟩ = some (.float .f32 l') ∧ W.cell? ⟨q, 2, none⟩ = some (.float .f32 s') ∧ W.cell? ⟨q, 3, none⟩ = some (Value.slice bo ds.length d) ∧ W.cell? ⟨q, 4, none⟩ = some (.int .i64 x))) (by kernel_rfl) (by first | (simp; done) | (simp [*]; done) | go_keep) (fun hH => ?_)
      refine wpAnyH_take (i := 0) (oi := { dst := some 5, op := Op.move (Operand.tmp 0), type := 104, pos := "l04_smoothing.go:22", after := #[], guard := none }) (v := ?_) rfl (by kernel_rfl) (by kernel_rfl) (by kernel_rfl) (fun _ _ _ h => h) (Or.inl ⟨by rfl, ?_⟩) hH ?_
      rotate_left
      · (intro w hSw; (try dsimp only at hSw); go_simp; try with_reducible rfl)
      (try simp only [Act.put, List.setIfInBounds_toArray, List.set_cons_zero, List.set_cons_succ])
      refine wpAnyH_take (i := 1) (oi := { dst := some 6, op := Op.nilCheck (Operand.tmp 5), type := 0, pos := "l04_smoothing.go:22", after := #[{ on := 0, ground := Ground.data }], guard := none }) (v := ?_) rfl (by kernel_rfl) (by kernel_rfl) (by kernel_rfl) (fun _ _ _ h => h) (Or.inl ⟨by rfl, ?_⟩) hH ?_
      rotate_left
      · (intro w hSw; (try dsimp only at hSw); go_simp; try with_reducible rfl)
      (try simp only [Act.put, List.setIfInBounds_toArray, List.set_cons_zero, List.set_cons_succ])
      refine wpAnyH_take (i := 2) (oi := { dst := some 7, op := Op.fieldAddr 56 (Operand.tmp 6) 3, type := 0, pos := "l04_smoothing.go:22", after := #[{ on := 1, ground := Ground.data }], guard := none }) (v := ?_) rfl (by kernel_rfl) (by kernel_rfl) (by kernel_rfl) (fun _ _ _ h => h) (Or.inl ⟨by rfl, ?_⟩) hH ?_
      rotate_left
      · (intro w hSw; (try dsimp only at hSw); go_simp; try with_reducible rfl)
      (try simp only [Act.put, List.setIfInBounds_toArray, List.set_cons_zero, List.set_cons_succ])
      refine wpAnyH_take (i := 3) (oi := { dst := some 8, op := Op.load 2 (Operand.tmp 7), type := 2, pos := "l04_smoothing.go:22", after := #[{ on := 2, ground := Ground.data }], guard := none }) (v := ?_) rfl (by kernel_rfl) (by kernel_rfl) (by kernel_rfl) (fun _ _ _ h => h) (Or.inl ⟨by rfl, ?_⟩) hH ?_
      rotate_left
      · (intro w hSw; (try dsimp only at hSw); go_simp; try with_reducible rfl)
      (try simp only [Act.put, List.setIfInBounds_toArray, List.set_cons_zero, List.set_cons_succ])
      refine wpAnyH_take (i := 4) (oi := { dst := some 9, op := Op.move (Operand.tmp 1), type := 104, pos := "l04_smoothing.go:22", after := #[], guard := none }) (v := ?_) rfl (by kernel_rfl) (by kernel_rfl) (by kernel_rfl) (fun _ _ _ h => h) (Or.inl ⟨by rfl, ?_⟩) hH ?_
      rotate_left
      · (intro w hSw; (try dsimp only at hSw); go_simp; try with_reducible rfl)
      (try simp only [Act.put, List.setIfInBounds_toArray, List.set_cons_zero, List.set_cons_succ])
      refine wpAnyH_take (i := 5) (oi := { dst := some 10, op := Op.nilCheck (Operand.tmp 9), type := 0, pos := "l04_smoothing.go:22", after := #[{ on := 4, ground := Ground.data }], guard := none }) (v := ?_) rfl (by kernel_rfl) (by kernel_rfl) (by kernel_rfl) (fun _ _ _ h => h) (Or.inl ⟨by rfl, ?_⟩) hH ?_
      rotate_left
      · (intro w hSw; (try dsimp only at hSw); go_simp; try with_reducible rfl)
      (try simp only [Act.put, List.setIfInBounds_toArray, List.set_cons_zero, List.set_cons_succ])
      refine wpAnyH_take (i := 6) (oi := { dst := some 11, op := Op.fieldAddr 56 (Operand.tmp 10) 3, type := 0, pos := "l04_smoothing.go:22", after := #[{ on := 5, ground := Ground.data }], guard := none }) (v := ?_) rfl (by kernel_rfl) (by kernel_rfl) (by kernel_rfl) (fun _ _ _ h => h) (Or.inl ⟨by rfl, ?_⟩) hH ?_
      rotate_left
      · (intro w hSw; (try dsimp only at hSw); go_simp; try with_reducible rfl)
      (try simp only [Act.put, List.setIfInBounds_toArray, List.set_cons_zero, List.set_cons_succ])
      refine wpAnyH_take (i := 7) (oi := { dst := some 12, op := Op.load 2 (Operand.tmp 11), type := 2, pos := "l04_smoothing.go:22", after := #[{ on := 6, ground := Ground.data }], guard := none }) (v := ?_) rfl (by kernel_rfl) (by kernel_rfl) (by kernel_rfl) (fun _ _ _ h => h) (Or.inl ⟨by rfl, ?_⟩) hH ?_
      rotate_left
      · (intro w hSw; (try dsimp only at hSw); go_simp; try with_reducible rfl)
      (try simp only [Act.put, List.setIfInBounds_toArray, List.set_cons_zero, List.set_cons_succ])
      refine wpAnyH_take (i := 8) (oi := { dst := some 13, op := Op.binOp BinOp.eql 2 (Operand.tmp 8) (Operand.tmp 12) 2, type := 4, pos := "l04_smoothing.go:22", after := #[{ on := 3, ground := Ground.data }, { on := 7, ground := Ground.data }], guard := none }) (v := ?_) rfl (by kernel_rfl) (by kernel_rfl) (by kernel_rfl) (fun _ _ _ h => h) (Or.inl ⟨by rfl, ?_⟩) hH ?_
      rotate_left
      · (intro w hSw; (try dsimp only at hSw); go_simp; try with_reducible rfl)
      (try simp only [Act.put, List.setIfInBounds_toArray, List.set_cons_zero, List.set_cons_succ])
      refine wpAnyH_take (i := 9) (oi := { dst := some 14, op := Op.move (Operand.tmp 13), type := 4, pos := "l04_smoothing.go:22", after := #[{ on := 8, ground := Ground.data }], guard := none }) (v := ?_) rfl (by kernel_rfl) (by kernel_rfl) (by kernel_rfl) (fun _ _ _ h => h) (Or.inl ⟨by rfl, ?_⟩) hH ?_
      rotate_left
      · (intro w hSw; (try dsimp only at hSw); go_simp; try with_reducible rfl)
      (try simp only [Act.put, List.setIfInBounds_toArray, List.set_cons_zero, List.set_cons_succ])
      refine wpAnyH_take (i := 10) (oi := { dst := some 15, op := Op.move (Operand.tmp 0), type := 104, pos := "l04_smoothing.go:22", after := #[{ on := 9, ground := Ground.guard }], guard := some (9, true) }) (v := ?_) rfl (by kernel_rfl) (by kernel_rfl) (by kernel_rfl) (fun _ _ _ h => h) (Or.inl ⟨by rfl, ?_⟩) hH ?_
      rotate_left
      · (intro w hSw; (try dsimp only at hSw); go_simp; try with_reducible rfl)
      (try simp only [Act.put, List.setIfInBounds_toArray, List.set_cons_zero, List.set_cons_succ])
      refine wpAnyH_take (i := 11) (oi := { dst := some 16, op := Op.nilCheck (Operand.tmp 15), type := 0, pos := "l04_smoothing.go:22", after := #[{ on := 10, ground := Ground.data }, { on := 9, ground := Ground.guard }], guard := some (9, true) }) (v := ?_) rfl (by kernel_rfl) (by kernel_rfl) (by kernel_rfl) (fun _ _ _ h => h) (Or.inl ⟨by rfl, ?_⟩) hH ?_
      rotate_left
      · (intro w hSw; (try dsimp only at hSw); go_simp; try with_reducible rfl)
      (try simp only [Act.put, List.setIfInBounds_toArray, List.set_cons_zero, List.set_cons_succ])
      refine wpAnyH_take (i := 12) (oi := { dst := some 17, op := Op.fieldAddr 56 (Operand.tmp 16) 0, type := 0, pos := "l04_smoothing.go:22", after := #[{ on := 11, ground := Ground.data }, { on := 9, ground := Ground.guard }], guard := some (9, true) }) (v := ?_) rfl (by kernel_rfl) (by kernel_rfl) (by kernel_rfl) (fun _ _ _ h => h) (Or.inl ⟨by rfl, ?_⟩) hH ?_
      rotate_left
      · (intro w hSw; (try dsimp only at hSw); go_simp; try with_reducible rfl)
      (try simp only [Act.put, List.setIfInBounds_toArray, List.set_cons_zero, List.set_cons_succ])
      refine wpAnyH_take (i := 13) (oi := { dst := some 18, op := Op.load 54 (Operand.tmp 17), type := 54, pos := "l04_smoothing.go:22", after := #[{ on := 12, ground := Ground.data }, { on := 9, ground := Ground.guard }], guard := some (9, true) }) (v := ?_) rfl (by kernel_rfl) (by kernel_rfl) (by kernel_rfl) (fun _ _ _ h => h) (Or.inl ⟨by rfl, ?_⟩) hH ?_
      rotate_left
      · (intro w hSw; (try dsimp only at hSw); go_simp; try with_reducible rfl)
      (try simp only [Act.put, List.setIfInBounds_toArray, List.set_cons_zero, List.set_cons_succ])
      refine wpAnyH_take (i := 14) (oi := { dst := some 19, op := Op.move (Operand.tmp 0), type := 104, pos := "l04_smoothing.go:22", after := #[{ on := 9, ground := Ground.guard }], guard := some (9, true) }) (v := ?_) rfl (by kernel_rfl) (by kernel_rfl) (by kernel_rfl) (fun _ _ _ h => h) (Or.inl ⟨by rfl, ?_⟩) hH ?_
      rotate_left
      · (intro w hSw; (try dsimp only at hSw); go_simp; try with_reducible rfl)
      (try simp only [Act.put, List.setIfInBounds_toArray, List.set_cons_zero, List.set_cons_succ])
      refine wpAnyH_take (i := 15) (oi := { dst := some 20, op := Op.nilCheck (Operand.tmp 19), type := 0, pos := "l04_smoothing.go:22", after := #[{ on := 14, ground := Ground.data }, { on := 9, ground := Ground.guard }], guard := some (9, true) }) (v := ?_) rfl (by kernel_rfl) (by kernel_rfl) (by kernel_rfl) (fun _ _ _ h => h) (Or.inl ⟨by rfl, ?_⟩) hH ?_
      rotate_left
      · (intro w hSw; (try dsimp only at hSw); go_simp; try with_reducible rfl)
      (try simp only [Act.put, List.setIfInBounds_toArray, List.set_cons_zero, List.set_cons_succ])
      refine wpAnyH_take (i := 16) (oi := { dst := some 21, op := Op.fieldAddr 56 (Operand.tmp 20) 1, type := 0, pos := "l04_smoothing.go:22", after := #[{ on := 15, ground := Ground.data }, { on := 9, ground := Ground.guard }], guard := some (9, true) }) (v := ?_) rfl (by kernel_rfl) (by kernel_rfl) (by kernel_rfl) (fun _ _ _ h => h) (Or.inl ⟨by rfl, ?_⟩) hH ?_
      rotate_left
      · (intro w hSw; (try dsimp only at hSw); go_simp; try with_reducible rfl)
      (try simp only [Act.put, List.setIfInBounds_toArray, List.set_cons_zero, List.set_cons_succ])
      refine wpAnyH_take (i := 17) (oi := { dst := some 22, op := Op.load 54 (Operand.tmp 21), type := 54, pos := "l04_smoothing.go:22", after := #[{ on := 16, ground := Ground.data }, { on := 9, ground := Ground.guard }], guard := some (9, true) }) (v := ?_) rfl (by kernel_rfl) (by kernel_rfl) (by kernel_rfl) (fun _ _ _ h => h) (Or.inl ⟨by rfl, ?_⟩) hH ?_
      rotate_left
      · (intro w hSw; (try dsimp only at hSw); go_simp; try with_reducible rfl)
      (try simp only [Act.put, List.setIfInBounds_toArray, List.set_cons_zero, List.set_cons_succ])
      refine wpAnyH_take (i := 19) (oi := { dst := some 24, op := Op.move (Operand.tmp 1), type := 104, pos := "l04_smoothing.go:22", after := #[{ on := 9, ground := Ground.guard }], guard := some (9, true) }) (v := ?_) rfl (by kernel_rfl) (by kernel_rfl) (by kernel_rfl) (fun _ _ _ h => h) (Or.inl ⟨by rfl, ?_⟩) hH ?_
      rotate_left
      · (intro w hSw; (try dsimp only at hSw); go_simp; try with_reducible rfl)
      (try simp only [Act.put, List.setIfInBounds_toArray, List.set_cons_zero, List.set_cons_succ])
      refine wpAnyH_take (i := 20) (oi := { dst := some 25, op := Op.nilCheck (Operand.tmp 24), type := 0, pos := "l04_smoothing.go:22", after := #[{ on := 19, ground := Ground.data }, { on := 9, ground := Ground.guard }], guard := some (9, true) }) (v := ?_) rfl (by kernel_rfl) (by kernel_rfl) (by kernel_rfl) (fun _ _ _ h => h) (Or.inl ⟨by rfl, ?_⟩) hH ?_
      rotate_left
      · (intro w hSw; (try dsimp only at hSw); go_simp; try with_reducible rfl)
      (try simp only [Act.put, List.setIfInBounds_toArray, List.set_cons_zero, List.set_cons_succ])
      refine wpAnyH_take (i := 21) (oi := { dst := some 26, op := Op.fieldAddr 56 (Operand.tmp 25) 0, type := 0, pos := "l04_smoothing.go:22", after := #[{ on := 20, ground := Ground.data }, { on := 9, ground := Ground.guard }], guard := some (9, true) }) (v := ?_) rfl (by kernel_rfl) (by kernel_rfl) (by kernel_rfl) (fun _ _ _ h => h) (Or.inl ⟨by rfl, ?_⟩) hH ?_
      rotate_left
      · (intro w hSw; (try dsimp only at hSw); go_simp; try with_reducible rfl)
      (try simp only [Act.put, List.setIfInBounds_toArray, List.set_cons_zero, List.set_cons_succ])
      refine wpAnyH_take (i := 22) (oi := { dst := some 27, op := Op.load 54 (Operand.tmp 26), type := 54, pos := "l04_smoothing.go:22", after := #[{ on := 21, ground := Ground.data }, { on := 9, ground := Ground.guard }], guard := some (9, true) }) (v := ?_) rfl (by kernel_rfl) (by kernel_rfl) (by kernel_rfl) (fun _ _ _ h => h) (Or.inl ⟨by rfl, ?_⟩) hH ?_
      rotate_left
      · (intro w hSw; (try dsimp only at hSw); go_simp; try with_reducible rfl)
      (try simp only [Act.put, List.setIfInBounds_toArray, List.set_cons_zero, List.set_cons_succ])
      refine wpAnyH_take (i := 23) (oi := { dst := some 28, op := Op.move (Operand.tmp 1), type := 104, pos := "l04_smoothing.go:22", after := #[{ on := 9, ground := Ground.guard }], guard := some (9, true) }) (v := ?_) rfl (by kernel_rfl) (by kernel_rfl) (by kernel_rfl) (fun _ _ _ h => h) (Or.inl ⟨by rfl, ?_⟩) hH ?_
      rotate_left
      · (intro w hSw; (try dsimp only at hSw); go_simp; try with_reducible rfl)
      (try simp only [Act.put, List.setIfInBounds_toArray, List.set_cons_zero, List.set_cons_succ])
      refine wpAnyH_take (i := 24) (oi := { dst := some 29, op := Op.nilCheck (Operand.tmp 28), type := 0, pos := "l04_smoothing.go:22", after := #[{ on := 23, ground := Ground.data }, { on := 9, ground := Ground.guard }], guard := some (9, true) }) (v := ?_) rfl (by kernel_rfl) (by kernel_rfl) (by kernel_rfl) (fun _ _ _ h => h) (Or.inl ⟨by rfl, ?_⟩) hH ?_
      rotate_left
      · (intro w hSw; (try dsimp only at hSw); go_simp; try with_reducible rfl)
      (try simp only [Act.put, List.setIfInBounds_toArray, List.set_cons_zero, List.set_cons_succ])
      refine wpAnyH_take (i := 25) (oi := { dst := some 30, op := Op.fieldAddr 56 (Operand.tmp 29) 1, type := 0, pos := "l04_smoothing.go:22", after := #[{ on := 24, ground := Ground.data }, { on := 9, ground := Ground.guard }], guard := some (9, true) }) (v := ?_) rfl (by kernel_rfl) (by kernel_rfl) (by kernel_rfl) (fun _ _ _ h => h) (Or.inl ⟨by rfl, ?_⟩) hH ?_
      rotate_left
      · (intro w hSw; (try dsimp only at hSw); go_simp; try with_reducible rfl)
      (try simp only [Act.put, List.setIfInBounds_toArray, List.set_cons_zero, List.set_cons_succ])
      refine wpAnyH_take (i := 26) (oi := { dst := some 31, op := Op.load 54 (Operand.tmp 30), type := 54, pos := "l04_smoothing.go:22", after := #[{ on := 25, ground := Ground.data }, { on := 9, ground := Ground.guard }], guard := some (9, true) }) (v := ?_) rfl (by kernel_rfl) (by kernel_rfl) (by kernel_rfl) (fun _ _ _ h => h) (Or.inl ⟨by rfl, ?_⟩) hH ?_
      rotate_left
      · (intro w hSw; (try dsimp only at hSw); go_simp; try with_reducible rfl)
      (try simp only [Act.put, List.setIfInBounds_toArray, List.set_cons_zero, List.set_cons_succ])
      refine wpAnyH_ready (rs := [18, 27]) (by kernel_rfl) (by simp) (AllReadyH.cons (o := { dst := some 23, op := Op.buildSlice 28 2 #[(0, Operand.tmp 18), (1, Operand.tmp 22)], type := 28, pos := "l04_smoothing.go:22", after := #[{ on := 13, ground := Ground.data }, { on := 17, ground := Ground.data }, { on := 9, ground := Ground.guard }], guard := some (9, true) }) rfl (fun K hK => ?b1) (AllReadyH.cons (o := { dst := some 32, op := Op.buildSlice 28 2 #[(0, Operand.tmp 27), (1, Operand.tmp 31)], type := 28, pos := "l04_smoothing.go:22", after := #[{ on := 22, ground := Ground.data }, { on := 26, ground := Ground.data }, { on := 9, ground := Ground.guard }], guard := some (9, true) }) rfl (fun K hK => ?b2) AllReadyH.nil))
      case b1 =>
        go_simp
        refine hK.out _ _ (by first | (simp; done) | (simp [*]; done) | go_keep) (fun hH1 => ?_)
        clear hK K hH
        (try simp only [Act.put, List.setIfInBounds_toArray, List.set_cons_zero, List.set_cons_succ])
        refine wpAnyH_ready (rs := [27]) (by kernel_rfl) (by simp) (AllReadyH.cons (o := { dst := some 32, op := Op.buildSlice 28 2 #[(0, Operand.tmp 27), (1, Operand.tmp 31)], type := 28, pos := "l04_smoothing.go:22", after := #[{ on := 22, ground := Ground.data }, { on := 26, ground := Ground.data }, { on := 9, ground := Ground.guard }], guard := some (9, true) }) rfl (fun K hK => ?c1) AllReadyH.nil)
        go_simp
        refine hK.out _ _ (by first | (simp; done) | (simp [*]; done) | go_keep) (fun hH2 => ?_)
        clear hK K hH1
        (try simp only [Act.put, List.setIfInBounds_toArray, List.set_cons_zero, List.set_cons_succ])
        refine wpAnyH_ready (rs := [28]) (by kernel_rfl) (by simp) (AllReadyH.cons (o := { dst := some 33, op := Op.call { callee := Callee.value (Operand.func 50), args := #[Operand.tmp 23, Operand.tmp 32], argTypes := #[28, 28] }, type := 4, pos := "l04_smoothing.go:22", after := #[{ on := 18, ground := Ground.data }, { on := 27, ground := Ground.data }, { on := 9, ground := Ground.chain }, { on := 9, ground := Ground.guard }], guard := some (9, true) }) rfl (fun K hK => ?c2) AllReadyH.nil)
        go_simp
        (go_at_call 50; refine (s_l01SameAll _ _ ([l, s].map (cn .f32)) ([l', s'].map (cn .f32)) _ (by first | exact (HL1.out _).drew | exact (HL2.out _).drew | exact HL1.out _ | exact HL2.out _) (by first | exact (HM1.out _).drew | exact (HM2.out _).drew | exact HM1.out _ | exact HM2.out _)).mono ?_; rintro z w2 ⟨rfl, n2, rfl⟩; rw [HSA.out])
        refine hK.out _ _ (by first | (simp; done) | (simp [*]; done) | go_keep) (fun hH3 => ?_)
        clear hK K hH2
        (try simp only [Act.put, List.setIfInBounds_toArray, List.set_cons_zero, List.set_cons_succ])
        refine wpAnyH_take (i := 29) (oi := { dst := some 34, op := Op.pick (Operand.tmp 14) (Operand.tmp 33) (Operand.const (Value.bool false)), type := 4, pos := "l04_smoothing.go:22", after := #[{ on := 9, ground := Ground.data }, { on := 28, ground := Ground.data }], guard := none }) (v := ?_) rfl (by kernel_rfl) (by kernel_rfl) (by kernel_rfl) (fun _ _ _ h => h) (Or.inl ⟨by rfl, ?_⟩) hH3 ?_
        rotate_left
        · (intro w hSw; (try dsimp only at hSw); go_simp; try with_reducible rfl)
        (try simp only [Act.put, List.setIfInBounds_toArray, List.set_cons_zero, List.set_cons_succ])
        refine wpAnyH_take (i := 30) (oi := { dst := some 35, op := Op.move (Operand.tmp 34), type := 4, pos := "l04_smoothing.go:22", after := #[{ on := 29, ground := Ground.data }, { on := 28, ground := Ground.chain }], guard := none }) (v := ?_) rfl (by kernel_rfl) (by kernel_rfl) (by kernel_rfl) (fun _ _ _ h => h) (Or.inl ⟨by rfl, ?_⟩) hH3 ?_
        rotate_left
        · (intro w hSw; (try dsimp only at hSw); go_simp; try with_reducible rfl)
        (try simp only [Act.put, List.setIfInBounds_toArray, List.set_cons_zero, List.set_cons_succ])
        refine wpAnyH_take (i := 31) (oi := { dst := some 36, op := Op.move (Operand.tmp 0), type := 104, pos := "l04_smoothing.go:22", after := #[{ on := 30, ground := Ground.guard }], guard := some (30, true) }) (v := undef) rfl (by kernel_rfl) (by kernel_rfl) (by kernel_rfl) (fun _ _ _ h => h) (Or.inr ⟨by rfl, rfl⟩) hH3 ?_
        (try simp only [Act.put, List.setIfInBounds_toArray, List.set_cons_zero, List.set_cons_succ])
        refine wpAnyH_take (i := 32) (oi := { dst := some 37, op := Op.nilCheck (Operand.tmp 36), type := 0, pos := "l04_smoothing.go:22", after := #[{ on := 31, ground := Ground.data }, { on := 30, ground := Ground.guard }], guard := some (30, true) }) (v := undef) rfl (by kernel_rfl) (by kernel_rfl) (by kernel_rfl) (fun _ _ _ h => h) (Or.inr ⟨by rfl, rfl⟩) hH3 ?_
        (try simp only [Act.put, List.setIfInBounds_toArray, List.set_cons_zero, List.set_cons_succ])
        refine wpAnyH_take (i := 33) (oi := { dst := some 38, op := Op.fieldAddr 56 (Operand.tmp 37) 2, type := 0, pos := "l04_smoothing.go:22", after := #[{ on := 32, ground := Ground.data }, { on := 30, ground := Ground.guard }], guard := some (30, true) }) (v := undef) rfl (by kernel_rfl) (by kernel_rfl) (by kernel_rfl) (fun _ _ _ h => h) (Or.inr ⟨by rfl, rfl⟩) hH3 ?_
        (try simp only [Act.put, List.setIfInBounds_toArray, List.set_cons_zero, List.set_cons_succ])
        refine wpAnyH_take (i := 34) (oi := { dst := some 39, op := Op.load 28 (Operand.tmp 38), type := 28, pos := "l04_smoothing.go:22", after := #[{ on := 33, ground := Ground.data }, { on := 30, ground := Ground.guard }], guard := some (30, true) }) (v := undef) rfl (by kernel_rfl) (by kernel_rfl) (by kernel_rfl) (fun _ _ _ h => h) (Or.inr ⟨by rfl, rfl⟩) hH3 ?_
        (try simp only [Act.put, List.setIfInBounds_toArray, List.set_cons_zero, List.set_cons_succ])
        refine wpAnyH_take (i := 35) (oi := { dst := some 40, op := Op.move (Operand.tmp 1), type := 104, pos := "l04_smoothing.go:22", after := #[{ on := 30, ground := Ground.guard }], guard := some (30, true) }) (v := undef) rfl (by kernel_rfl) (by kernel_rfl) (by kernel_rfl) (fun _ _ _ h => h) (Or.inr ⟨by rfl, rfl⟩) hH3 ?_
        (try simp only [Act.put, List.setIfInBounds_toArray, List.set_cons_zero, List.set_cons_succ])
        refine wpAnyH_take (i := 36) (oi := { dst := some 41, op := Op.nilCheck (Operand.tmp 40), type := 0, pos := "l04_smoothing.go:22", after := #[{ on := 35, ground := Ground.data }, { on := 30, ground := Ground.guard }], guard := some (30, true) }) (v := undef) rfl (by kernel_rfl) (by kernel_rfl) (by kernel_rfl) (fun _ _ _ h => h) (Or.inr ⟨by rfl, rfl⟩) hH3 ?_
        (try simp only [Act.put, List.setIfInBounds_toArray, List.set_cons_zero, List.set_cons_succ])
        refine wpAnyH_take (i := 37) (oi := { dst := some 42, op := Op.fieldAddr 56 (Operand.tmp 41) 2, type := 0, pos := "l04_smoothing.go:22", after := #[{ on := 36, ground := Ground.data }, { on := 30, ground := Ground.guard }], guard := some (30, true) }) (v := undef) rfl (by kernel_rfl) (by kernel_rfl) (by kernel_rfl) (fun _ _ _ h => h) (Or.inr ⟨by rfl, rfl⟩) hH3 ?_
        (try simp only [Act.put, List.setIfInBounds_toArray, List.set_cons_zero, List.set_cons_succ])
        refine wpAnyH_take (i := 38) (oi := { dst := some 43, op := Op.load 28 (Operand.tmp 42), type := 28, pos := "l04_smoothing.go:22", after := #[{ on := 37, ground := Ground.data }, { on := 30, ground := Ground.guard }], guard := some (30, true) }) (v := undef) rfl (by kernel_rfl) (by kernel_rfl) (by kernel_rfl) (fun _ _ _ h => h) (Or.inr ⟨by rfl, rfl⟩) hH3 ?_
        (try simp only [Act.put, List.setIfInBounds_toArray, List.set_cons_zero, List.set_cons_succ])
        refine wpAnyH_take (i := 39) (oi := { dst := some 44, op := Op.call { callee := Callee.value (Operand.func 50), args := #[Operand.tmp 39, Operand.tmp 43], argTypes := #[28, 28] }, type := 4, pos := "l04_smoothing.go:22", after := #[{ on := 34, ground := Ground.data }, { on := 38, ground := Ground.data }, { on := 30, ground := Ground.chain }, { on := 30, ground := Ground.guard }], guard := some (30, true) }) (v := undef) rfl (by kernel_rfl) (by kernel_rfl) (by kernel_rfl) (fun _ _ _ h => h) (Or.inr ⟨by rfl, rfl⟩) hH3 ?_
        (try simp only [Act.put, List.setIfInBounds_toArray, List.set_cons_zero, List.set_cons_succ])
        refine wpAnyH_take (i := 40) (oi := { dst := some 45, op := Op.pick (Operand.tmp 35) (Operand.tmp 44) (Operand.const (Value.bool false)), type := 4, pos := "l04_smoothing.go:22", after := #[{ on := 30, ground := Ground.data }, { on := 39, ground := Ground.data }], guard := none }) (v := ?_) rfl (by kernel_rfl) (by kernel_rfl) (by kernel_rfl) (fun _ _ _ h => h) (Or.inl ⟨by rfl, ?_⟩) hH3 ?_
        rotate_left
        · (intro w hSw; (try dsimp only at hSw); go_simp; try with_reducible rfl)
        (try simp only [Act.put, List.setIfInBounds_toArray, List.set_cons_zero, List.set_cons_succ])
        refine wpAnyH_take (i := 41) (oi := { dst := some 4, op := Op.assign (Operand.tmp 45), type := 4, pos := "l04_smoothing.go:22", after := #[{ on := 40, ground := Ground.data }, { on := 39, ground := Ground.chain }, { on := 0, ground := Ground.phase }, { on := 1, ground := Ground.phase }, { on := 2, ground := Ground.phase }, { on := 3, ground := Ground.phase }, { on := 4, ground := Ground.phase }, { on := 5, ground := Ground.phase }, { on := 6, ground := Ground.phase }, { on := 7, ground := Ground.phase }, { on := 8, ground := Ground.phase }, { on := 9, ground := Ground.phase }, { on := 10, ground := Ground.phase }, { on := 11, ground := Ground.phase }, { on := 12, ground := Ground.phase }, { on := 13, ground := Ground.phase }, { on := 14, ground := Ground.phase }, { on := 15, ground := Ground.phase }, { on := 16, ground := Ground.phase }, { on := 17, ground := Ground.phase }, { on := 18, ground := Ground.phase }, { on := 19, ground := Ground.phase }, { on := 20, ground := Ground.phase }, { on := 21, ground := Ground.phase }, { on := 22, ground := Ground.phase }, { on := 23, ground := Ground.phase }, { on := 24, ground := Ground.phase }, { on := 25, ground := Ground.phase }, { on := 26, ground := Ground.phase }, { on := 27, ground := Ground.phase }, { on := 28, ground := Ground.phase }, { on := 29, ground := Ground.phase }, { on := 30, ground := Ground.phase }, { on := 31, ground := Ground.phase }, { on := 32, ground := Ground.phase }, { on := 33, ground := Ground.phase }, { on := 34, ground := Ground.phase }, { on := 35, ground := Ground.phase }, { on := 36, ground := Ground.phase }, { on := 37, ground := Ground.phase }, { on := 38, ground := Ground.phase }, { on := 39, ground := Ground.phase }, { on := 40, ground := Ground.phase }], guard := none }) (v := ?_) rfl (by kernel_rfl) (by kernel_rfl) (by kernel_rfl) (fun _ _ _ h => h) (Or.inl ⟨by rfl, ?_⟩) hH3 ?_
        rotate_left
        · (intro w hSw; (try dsimp only at hSw); go_simp; try with_reducible rfl)
        (try simp only [Act.put, List.setIfInBounds_toArray, List.set_cons_zero, List.set_cons_succ])
        refine wpAnyH_done (by kernel_rfl) ?_ _
        clear hH3
        go_wp2_with fail
        go_ret
        refine ⟨ret_bool ?_, by (repeat (first | with_reducible exact Below.refl _ _ | with_reducible assumption | with_reducible refine below_drewN ?_ _ | with_reducible refine Below.drew ?_ | with_reducible refine Below.alloc ?_ (by first | omega | (simp; omega) | (simp; done) | (simp at *; omega)) _ | with_reducible refine Below.setCell ?_ (by first | omega | (simp; omega) | (simp; done) | (simp at *; omega)) _ | refine Below.trans ?_ (Below.mono (by with_reducible assumption) (by first | omega | (simp; omega) | (simp; done) | (simp at *; omega)))))⟩
        have h := HSA.out
        clear HSA
        simp only [List.map_cons, List.map_nil, two_same] at h
        rw [stSame]
        cases h5 : same (cn .f32 l) (cn .f32 l') <;> cases h6 : same (cn .f32 s) (cn .f32 s') <;> rw [h5, h6] at h <;> first | rfl | (simp at h)
      case b2 =>
        go_simp
        refine hK.out _ _ (by first | (simp; done) | (simp [*]; done) | go_keep) (fun hH1 => ?_)
        clear hK K hH
        (try simp only [Act.put, List.setIfInBounds_toArray, List.set_cons_zero, List.set_cons_succ])
        refine wpAnyH_ready (rs := [18]) (by kernel_rfl) (by simp) (AllReadyH.cons (o := { dst := some 23, op := Op.buildSlice 28 2 #[(0, Operand.tmp 18), (1, Operand.tmp 22)], type := 28, pos := "l04_smoothing.go:22", after := #[{ on := 13, ground := Ground.data }, { on := 17, ground := Ground.data }, { on := 9, ground := Ground.guard }], guard := some (9, true) }) rfl (fun K hK => ?d1) AllReadyH.nil)
        go_simp
        refine hK.out _ _ (by first | (simp; done) | (simp [*]; done) | go_keep) (fun hH2 => ?_)
        clear hK K hH1
        (try simp only [Act.put, List.setIfInBounds_toArray, List.set_cons_zero, List.set_cons_succ])
        refine wpAnyH_ready (rs := [28]) (by kernel_rfl) (by simp) (AllReadyH.cons (o := { dst := some 33, op := Op.call { callee := Callee.value (Operand.func 50), args := #[Operand.tmp 23, Operand.tmp 32], argTypes := #[28, 28] }, type := 4, pos := "l04_smoothing.go:22", after := #[{ on := 18, ground := Ground.data }, { on := 27, ground := Ground.data }, { on := 9, ground := Ground.chain }, { on := 9, ground := Ground.guard }], guard := some (9, true) }) rfl (fun K hK => ?d2) AllReadyH.nil)
        go_simp
        (go_at_call 50; refine (s_l01SameAll _ _ ([l, s].map (cn .f32)) ([l', s'].map (cn .f32)) _ (by first | exact (HL1.out _).drew | exact (HL2.out _).drew | exact HL1.out _ | exact HL2.out _) (by first | exact (HM1.out _).drew | exact (HM2.out _).drew | exact HM1.out _ | exact HM2.out _)).mono ?_; rintro z w2 ⟨rfl, n2, rfl⟩; rw [HSA.out])
        refine hK.out _ _ (by first | (simp; done) | (simp [*]; done) | go_keep) (fun hH3 => ?_)
        clear hK K hH2
        (try simp only [Act.put, List.setIfInBounds_toArray, List.set_cons_zero, List.set_cons_succ])
        refine wpAnyH_take (i := 29) (oi := { dst := some 34, op := Op.pick (Operand.tmp 14) (Operand.tmp 33) (Operand.const (Value.bool false)), type := 4, pos := "l04_smoothing.go:22", after := #[{ on := 9, ground := Ground.data }, { on := 28, ground := Ground.data }], guard := none }) (v := ?_) rfl (by kernel_rfl) (by kernel_rfl) (by kernel_rfl) (fun _ _ _ h => h) (Or.inl ⟨by rfl, ?_⟩) hH3 ?_
        rotate_left
        · (intro w hSw; (try dsimp only at hSw); go_simp; try with_reducible rfl)
        (try simp only [Act.put, List.setIfInBounds_toArray, List.set_cons_zero, List.set_cons_succ])
        refine wpAnyH_take (i := 30) (oi := { dst := some 35, op := Op.move (Operand.tmp 34), type := 4, pos := "l04_smoothing.go:22", after := #[{ on := 29, ground := Ground.data }, { on := 28, ground := Ground.chain }], guard := none }) (v := ?_) rfl (by kernel_rfl) (by kernel_rfl) (by kernel_rfl) (fun _ _ _ h => h) (Or.inl ⟨by rfl, ?_⟩) hH3 ?_
        rotate_left
        · (intro w hSw; (try dsimp only at hSw); go_simp; try with_reducible rfl)
        (try simp only [Act.put, List.setIfInBounds_toArray, List.set_cons_zero, List.set_cons_succ])
        refine wpAnyH_take (i := 31) (oi := { dst := some 36, op := Op.move (Operand.tmp 0), type := 104, pos := "l04_smoothing.go:22", after := #[{ on := 30, ground := Ground.guard }], guard := some (30, true) }) (v := undef) rfl (by kernel_rfl) (by kernel_rfl) (by kernel_rfl) (fun _ _ _ h => h) (Or.inr ⟨by rfl, rfl⟩) hH3 ?_
        (try simp only [Act.put, List.setIfInBounds_toArray, List.set_cons_zero, List.set_cons_succ])
        refine wpAnyH_take (i := 32) (oi := { dst := some 37, op := Op.nilCheck (Operand.tmp 36), type := 0, pos := "l04_smoothing.go:22", after := #[{ on := 31, ground := Ground.data }, { on := 30, ground := Ground.guard }], guard := some (30, true) }) (v := undef) rfl (by kernel_rfl) (by kernel_rfl) (by kernel_rfl) (fun _ _ _ h => h) (Or.inr ⟨by rfl, rfl⟩) hH3 ?_
        (try simp only [Act.put, List.setIfInBounds_toArray, List.set_cons_zero, List.set_cons_succ])
        refine wpAnyH_take (i := 33) (oi := { dst := some 38, op := Op.fieldAddr 56 (Operand.tmp 37) 2, type := 0, pos := "l04_smoothing.go:22", after := #[{ on := 32, ground := Ground.data }, { on := 30, ground := Ground.guard }], guard := some (30, true) }) (v := undef) rfl (by kernel_rfl) (by kernel_rfl) (by kernel_rfl) (fun _ _ _ h => h) (Or.inr ⟨by rfl, rfl⟩) hH3 ?_
        (try simp only [Act.put, List.setIfInBounds_toArray, List.set_cons_zero, List.set_cons_succ])
        refine wpAnyH_take (i := 34) (oi := { dst := some 39, op := Op.load 28 (Operand.tmp 38), type := 28, pos := "l04_smoothing.go:22", after := #[{ on := 33, ground := Ground.data }, { on := 30, ground := Ground.guard }], guard := some (30, true) }) (v := undef) rfl (by kernel_rfl) (by kernel_rfl) (by kernel_rfl) (fun _ _ _ h => h) (Or.inr ⟨by rfl, rfl⟩) hH3 ?_
        (try simp only [Act.put, List.setIfInBounds_toArray, List.set_cons_zero, List.set_cons_succ])
        refine wpAnyH_take (i := 35) (oi := { dst := some 40, op := Op.move (Operand.tmp 1), type := 104, pos := "l04_smoothing.go:22", after := #[{ on := 30, ground := Ground.guard }], guard := some (30, true) }) (v := undef) rfl (by kernel_rfl) (by kernel_rfl) (by kernel_rfl) (fun _ _ _ h => h) (Or.inr ⟨by rfl, rfl⟩) hH3 ?_
        (try simp only [Act.put, List.setIfInBounds_toArray, List.set_cons_zero, List.set_cons_succ])
        refine wpAnyH_take (i := 36) (oi := { dst := some 41, op := Op.nilCheck (Operand.tmp 40), type := 0, pos := "l04_smoothing.go:22", after := #[{ on := 35, ground := Ground.data }, { on := 30, ground := Ground.guard }], guard := some (30, true) }) (v := undef) rfl (by kernel_rfl) (by kernel_rfl) (by kernel_rfl) (fun _ _ _ h => h) (Or.inr ⟨by rfl, rfl⟩) hH3 ?_
        (try simp only [Act.put, List.setIfInBounds_toArray, List.set_cons_zero, List.set_cons_succ])
        refine wpAnyH_take (i := 37) (oi := { dst := some 42, op := Op.fieldAddr 56 (Operand.tmp 41) 2, type := 0, pos := "l04_smoothing.go:22", after := #[{ on := 36, ground := Ground.data }, { on := 30, ground := Ground.guard }], guard := some (30, true) }) (v := undef) rfl (by kernel_rfl) (by kernel_rfl) (by kernel_rfl) (fun _ _ _ h => h) (Or.inr ⟨by rfl, rfl⟩) hH3 ?_
        (try simp only [Act.put, List.setIfInBounds_toArray, List.set_cons_zero, List.set_cons_succ])
        refine wpAnyH_take (i := 38) (oi := { dst := some 43, op := Op.load 28 (Operand.tmp 42), type := 28, pos := "l04_smoothing.go:22", after := #[{ on := 37, ground := Ground.data }, { on := 30, ground := Ground.guard }], guard := some (30, true) }) (v := undef) rfl (by kernel_rfl) (by kernel_rfl) (by kernel_rfl) (fun _ _ _ h => h) (Or.inr ⟨by rfl, rfl⟩) hH3 ?_
        (try simp only [Act.put, List.setIfInBounds_toArray, List.set_cons_zero, List.set_cons_succ])
        refine wpAnyH_take (i := 39) (oi := { dst := some 44, op := Op.call { callee := Callee.value (Operand.func 50), args := #[Operand.tmp 39, Operand.tmp 43], argTypes := #[28, 28] }, type := 4, pos := "l04_smoothing.go:22", after := #[{ on := 34, ground := Ground.data }, { on := 38, ground := Ground.data }, { on := 30, ground := Ground.chain }, { on := 30, ground := Ground.guard }], guard := some (30, true) }) (v := undef) rfl (by kernel_rfl) (by kernel_rfl) (by kernel_rfl) (fun _ _ _ h => h) (Or.inr ⟨by rfl, rfl⟩) hH3 ?_
        (try simp only [Act.put, List.setIfInBounds_toArray, List.set_cons_zero, List.set_cons_succ])
        refine wpAnyH_take (i := 40) (oi := { dst := some 45, op := Op.pick (Operand.tmp 35) (Operand.tmp 44) (Operand.const (Value.bool false)), type := 4, pos := "l04_smoothing.go:22", after := #[{ on := 30, ground := Ground.data }, { on := 39, ground := Ground.data }], guard := none }) (v := ?_) rfl (by kernel_rfl) (by kernel_rfl) (by kernel_rfl) (fun _ _ _ h => h) (Or.inl ⟨by rfl, ?_⟩) hH3 ?_
        rotate_left
        · (intro w hSw; (try dsimp only at hSw); go_simp; try with_reducible rfl)
        (try simp only [Act.put, List.setIfInBounds_toArray, List.set_cons_zero, List.set_cons_succ])
        refine wpAnyH_take (i := 41) (oi := { dst := some 4, op := Op.assign (Operand.tmp 45), type := 4, pos := "l04_smoothing.go:22", after := #[{ on := 40, ground := Ground.data }, { on := 39, ground := Ground.chain }, { on := 0, ground := Ground.phase }, { on := 1, ground := Ground.phase }, { on := 2, ground := Ground.phase }, { on := 3, ground := Ground.phase }, { on := 4, ground := Ground.phase }, { on := 5, ground := Ground.phase }, { on := 6, ground := Ground.phase }, { on := 7, ground := Ground.phase }, { on := 8, ground := Ground.phase }, { on := 9, ground := Ground.phase }, { on := 10, ground := Ground.phase }, { on := 11, ground := Ground.phase }, { on := 12, ground := Ground.phase }, { on := 13, ground := Ground.phase }, { on := 14, ground := Ground.phase }, { on := 15, ground := Ground.phase }, { on := 16, ground := Ground.phase }, { on := 17, ground := Ground.phase }, { on := 18, ground := Ground.phase }, { on := 19, ground := Ground.phase }, { on := 20, ground := Ground.phase }, { on := 21, ground := Ground.phase }, { on := 22, ground := Ground.phase }, { on := 23, ground := Ground.phase }, { on := 24, ground := Ground.phase }, { on := 25, ground := Ground.phase }, { on := 26, ground := Ground.phase }, { on := 27, ground := Ground.phase }, { on := 28, ground := Ground.phase }, { on := 29, ground := Ground.phase }, { on := 30, ground := Ground.phase }, { on := 31, ground := Ground.phase }, { on := 32, ground := Ground.phase }, { on := 33, ground := Ground.phase }, { on := 34, ground := Ground.phase }, { on := 35, ground := Ground.phase }, { on := 36, ground := Ground.phase }, { on := 37, ground := Ground.phase }, { on := 38, ground := Ground.phase }, { on := 39, ground := Ground.phase }, { on := 40, ground := Ground.phase }], guard := none }) (v := ?_) rfl (by kernel_rfl) (by kernel_rfl) (by kernel_rfl) (fun _ _ _ h => h) (Or.inl ⟨by rfl, ?_⟩) hH3 ?_
        rotate_left
        · (intro w hSw; (try dsimp only at hSw); go_simp; try with_reducible rfl)
        (try simp only [Act.put, List.setIfInBounds_toArray, List.set_cons_zero, List.set_cons_succ])
        refine wpAnyH_done (by kernel_rfl) ?_ _
        clear hH3
        go_wp2_with fail
        go_ret
        refine ⟨ret_bool ?_, by (repeat (first | with_reducible exact Below.refl _ _ | with_reducible assumption | with_reducible refine below_drewN ?_ _ | with_reducible refine Below.drew ?_ | with_reducible refine Below.alloc ?_ (by first | omega | (simp; omega) | (simp; done) | (simp at *; omega)) _ | with_reducible refine Below.setCell ?_ (by first | omega | (simp; omega) | (simp; done) | (simp at *; omega)) _ | refine Below.trans ?_ (Below.mono (by with_reducible assumption) (by first | omega | (simp; omega) | (simp; done) | (simp at *; omega)))))⟩
        have h := HSA.out
        clear HSA
        simp only [List.map_cons, List.map_nil, two_same] at h
        rw [stSame]
        cases h5 : same (cn .f32 l) (cn .f32 l') <;> cases h6 : same (cn .f32 s) (cn .f32 s') <;> rw [h5, h6] at h <;> first | rfl | (simp at h)
    · have HSA := Lib.hid hsame
      clear hsame
      have HL1 := Lib.hid (fun (o : Obj) => show SB ((w.alloc (.cells #[.float .f32 l, .float .f32 s] 54)).alloc o) (.slice (some ⟨w.heap.size, 0, none⟩) 2 2) ([l, s].map (cn .f32)) from SB.keep (SB.lit w [l, s] 54 (0, 0) (by simp) (by simp; exact ⟨hl, hs⟩) rfl rfl) ((Below.refl _ _).alloc (Nat.le_refl _) o))
      have HL2 := Lib.hid (fun (o : Obj) => show SB ((w.alloc o).alloc (.cells #[.float .f32 l, .float .f32 s] 54)) (.slice (some ⟨w.heap.size + 1, 0, none⟩) 2 2) ([l, s].map (cn .f32)) from SB.lit (w.alloc o) [l, s] 54 (0, 0) (by simp) (by simp; exact ⟨hl, hs⟩) rfl (by simp))
      have HM1 := Lib.hid (fun (o : Obj) => show SB ((w.alloc (.cells #[.float .f32 l', .float .f32 s'] 54)).alloc o) (.slice (some ⟨w.heap.size, 0, none⟩) 2 2) ([l', s'].map (cn .f32)) from SB.keep (SB.lit w [l', s'] 54 (0, 0) (by simp) (by simp; exact ⟨hl', hs'⟩) rfl rfl) ((Below.refl _ _).alloc (Nat.le_refl _) o))
      have HM2 := Lib.hid (fun (o : Obj) => show SB ((w.alloc o).alloc (.cells #[.float .f32 l', .float .f32 s'] 54)) (.slice (some ⟨w.heap.size + 1, 0, none⟩) 2 2) ([l', s'].map (cn .f32)) from SB.lit (w.alloc o) [l', s'] 54 (0, 0) (by simp) (by simp; exact ⟨hl', hs'⟩) rfl (by simp))
      have m1 := World.new_ne w _ a1
      have m2 := World.new_ne w _ b1
      have m3 : p < w.heap.size := hp
      have m4 : q < w.heap.size := hq
      go_enter Try.func81, Try.ntmps81
      go_wp2_with fail
      go_region_held3 (fun W => W.cell? ⟨p, 1, none⟩ = some (.float .f32 l) ∧ W.cell? ⟨p, 2, none⟩ = some (.float .f32 s) ∧ W.cell? ⟨p, 3, none⟩ = some (Value.slice ao cs.length c) ∧ W.cell? ⟨p, 4, none⟩ = some (.int .i64 x) ∧ W.cell? ⟨q, 1, none⟩ = some (.float .f32 l') ∧ W.cell? ⟨q, 2, none⟩ = some (.float .f32 s') ∧ W.cell? ⟨q, 3, none⟩ = some (Value.slice bo ds.length d) ∧ W.cell? ⟨q, 4, none⟩ = some (.int .i64 x)) (first | (simp; done) | (simp [*]; done) | go_keep) (first
        | (go_at_call_of 50 (Value.slice ao cs.length c); refine (s_l01SameAll _ _ cs ds _ (HU.out.keep (by (repeat (first | with_reducible exact Below.refl _ _ | with_reducible assumption | with_reducible refine below_drewN ?_ _ | with_reducible refine Below.drew ?_ | with_reducible refine Below.alloc ?_ (by first | omega | (simp; omega) | (simp; done) | (simp at *; omega)) _ | with_reducible refine Below.setCell ?_ (by first | omega | (simp; omega) | (simp; done) | (simp at *; omega)) _ | refine Below.trans ?_ (Below.mono (by with_reducible assumption) (by first | omega | (simp; omega) | (simp; done) | (simp at *; omega))))))) (HV.out.keep (by (repeat (first | with_reducible exact Below.refl _ _ | with_reducible assumption | with_reducible refine below_drewN ?_ _ | with_reducible refine Below.drew ?_ | with_reducible refine Below.alloc ?_ (by first | omega | (simp; omega) | (simp; done) | (simp at *; omega)) _ | with_reducible refine Below.setCell ?_ (by first | omega | (simp; omega) | (simp; done) | (simp at *; omega)) _ | refine Below.trans ?_ (Below.mono (by with_reducible assumption) (by first | omega | (simp; omega) | (simp; done) | (simp at *; omega)))))))).mono ?_; rintro z w1 ⟨rfl, n1, rfl⟩)
        | (go_at_call 50; refine (s_l01SameAll _ _ ([l, s].map (cn .f32)) ([l', s'].map (cn .f32)) _ (by first | exact (HL1.out _).drew | exact (HL2.out _).drew | exact HL1.out _ | exact HL2.out _) (by first | exact (HM1.out _).drew | exact (HM2.out _).drew | exact HM1.out _ | exact HM2.out _)).mono ?_; rintro z w2 ⟨rfl, n2, rfl⟩; rw [HSA.out]))
      all_goals
        go_wp2_with fail
        go_ret
        refine ⟨ret_bool ?_, by (repeat (first | with_reducible exact Below.refl _ _ | with_reducible assumption | with_reducible refine below_drewN ?_ _ | with_reducible refine Below.drew ?_ | with_reducible refine Below.alloc ?_ (by first | omega | (simp; omega) | (simp; done) | (simp at *; omega)) _ | with_reducible refine Below.setCell ?_ (by first | omega | (simp; omega) | (simp; done) | (simp at *; omega)) _ | refine Below.trans ?_ (Below.mono (by with_reducible assumption) (by first | omega | (simp; omega) | (simp; done) | (simp at *; omega)))))⟩
        have h := HSA.out
        clear HSA
        simp only [List.map_cons, List.map_nil, two_same, Bool.and_eq_true] at h
        rw [stSame, h.1, h.2]; simp
  · have hxx : (x == x') = false := by simpa using hx
    go_enter Try.func81, Try.ntmps81
    go_wp2_with fail
    go_quiet (fail)
    go_wp2_with fail
    go_ret
    refine ⟨ret_bool ?_, by (repeat (first | with_reducible exact Below.refl _ _ | with_reducible assumption | with_reducible refine below_drewN ?_ _ | with_reducible refine Below.drew ?_ | with_reducible refine Below.alloc ?_ (by first | omega | (simp; omega) | (simp; done) | (simp at *; omega)) _ | with_reducible refine Below.setCell ?_ (by first | omega | (simp; omega) | (simp; done) | (simp at *; omega)) _ | refine Below.trans ?_ (Below.mono (by with_reducible assumption) (by first | omega | (simp; omega) | (simp; done) | (simp at *; omega)))))⟩
    simp [stSame, hx]

end Go.Proofs.Ytfckfdaloamkdaa
