/- Contracts: what is saved, read out of bytes, by the program: take, number. -/
import Derived.Test.YtfckfdaloamkdaaLd
import Derived.Test.YtfckfdaloamkdaaShelf
import Derived.Test.YtfckfdaloamkdaaTrk
import Derived.Test.YtfckfdaloamkdaaK76
import Derived.Deep.QuietTactic
import Derived.BigQuiet
namespace Go.Proofs.Ytfckfdaloamkdaa
set_option linter.unusedSimpArgs false
set_option linter.unusedVariables false
set_option maxRecDepth 100000
set_option maxHeartbeats 4000000
open Go.RowKit
attribute [local go_sem] run_store_float run_store_complex alloc_drewN setCell_drewN
theorem Wi.any {lo hi : Nat} {w w' : World} (h : Below w.heap.size w w') : Wi lo hi w w' := ⟨h.os, h.tape, h.output, h.size, fun k hk _ => h.block k hk⟩
/-- The taker. -/
def TKc (T : ByteArray) (a : Nat) (sh : Bool) : List Value := [.string T, .int .i64 (a : Int), .bool sh]
theorem repeat0 : ∀ c, Lib.repeatL [0] c = List.replicate c 0
  | 0 => rfl
  | c + 1 => by rw [Lib.repeatL, repeat0 c]; rfl

theorem storeBo (p j : Nat) (b : Bool) : ∀ w, (Instr.storeAt 4 (.pointer (some ⟨p, j, none⟩)) (.bool b)).run Try.prog w = (store ⟨p, j, none⟩ (.bool b) .plain).run Try.prog w := by intro w; go_simp
theorem storeIn (p j : Nat) (x : Int) : ∀ w, (Instr.storeAt 3 (.pointer (some ⟨p, j, none⟩)) (.int .i64 x)).run Try.prog w = (store ⟨p, j, none⟩ (.int .i64 x) .plain).run Try.prog w := by intro w; go_simp
theorem i_take (p : Nat) (T : ByteArray) (a : Nat) (sh : Bool) (n : Nat) (hT : T.size ≤ 100000000) (ha : a ≤ T.size) (hn : n ≤ 1000) (w : World) (hB : BK w p (TKc T a sh)) :
    Calls Try.prog 103 #[.pointer (some ⟨p, 0, none⟩), .int .i64 (n : Int)] w fun e w' => e = .returned (.string (tx (tk T.data.toList a sh n).1)) ∧ BK w' p (TKc T (tk T.data.toList a sh n).2.1 (tk T.data.toList a sh n).2.2) ∧ Wi p (p + 1) w w' := by
  have HB := Lib.hid hB
  have hx0 := hB.at (i := 0) rfl
  have hx1 := hB.at (i := 1) rfl
  clear hB
  have hln : T.data.toList.length = T.size := by simp
  by_cases hs : T.size - a < n
  · have HQ := Lib.hid (tk_no (l := T.data.toList) (a := a) (n := n) sh (by omega))
    generalize tk T.data.toList a sh n = q at HQ ⊢
    have HR := Lib.hid (fun w => Try.strings_Repeat ⟨#[0]⟩ n w (by omega) (by show 1 * n ≤ _; omega))
    have hsi : (T.size : Int) - (a : Int) < (n : Int) := by omega
    go_enter Try.func103, Try.ntmps103
    go_wp2_with fail
    go_quiet (fail)
    clear hx0 hx1
    go_wp2_with (refine wpList_storeBK3 (storeBo _ _ _) rfl rfl rfl (by first | exact HB.out | exact HB.out.drew | exact HB.out.drewN _) (by simp [TKc]) ?_; intro W hE hO hL hZ hG; have HE := Lib.hid hE; have HG := Lib.hid hG; clear hE hO hL hZ hG)
    have HW := Lib.hid (show Wi p (p + 1) w W from Wi.trans (Wi.any (show Below w.heap.size w _ from by first | exact below_drewN (Below.refl _ _) _ | exact Below.drew (Below.refl _ _))) (Wi.of_grown HG.out (fun g e => by injection e with e; omega)))
    clear HG
    go_wp2_with fail
    refine (HR.out _).mono ?_; rintro e w2 ⟨rfl, hb⟩
    have HE2 := Lib.hid (HE.out.keep hb)
    have HW2 := Lib.hid (HW.out.trans (Wi.any hb))
    clear hb HE HW
    go_wp2_with fail
    go_ret
    rw [HQ.out]
    refine ⟨?_, HE2.out, HW2.out⟩
    show _ = Ending.returned (Value.string (tx (List.replicate n 0)))
    rw [← repeat0]; rfl
  · have HQ := Lib.hid (tk_yes (l := T.data.toList) (a := a) (n := n) sh (by omega))
    generalize hq : tk T.data.toList a sh n = q at HQ ⊢
    clear hq
    have hsi : ¬ (T.size : Int) - (a : Int) < (n : Int) := by omega
    have HX := Lib.hid (show tx ((T.data.toList.drop a).take n) = T.extract a (a + n) by rw [tx_piece, Nat.add_sub_cancel_left])
    obtain ⟨m, hm⟩ : ∃ m, m = a + n := ⟨_, rfl⟩
    have hle : m ≤ T.size := by omega
    have hli : (m : Int) ≤ (T.size : Int) := by omega
    have hla : (a : Int) ≤ (m : Int) := by omega
    have w1 : (a : Int) + (n : Int) = (m : Int) := by omega
    have w2 : (m : Int) - (n : Int) = (a : Int) := by omega
    rw [← hm] at HQ HX
    have HM := Lib.hid hm
    clear hm
    go_enter Try.func103, Try.ntmps103
    go_wp2_with fail
    go_quiet (fail)
    go_wp2_with (refine wpList_storeBK3 (storeIn _ _ _) rfl rfl rfl (by first | exact HB.out | exact HB.out.drew | exact HB.out.drewN _) (by simp [TKc]) ?_; intro W hE hO hL hZ hG; have HE := Lib.hid hE; have HG := Lib.hid hG; clear hE hO hL hZ hG)
    have HW := Lib.hid (show Wi p (p + 1) w W from Wi.trans (Wi.any (show Below w.heap.size w _ from by first | exact below_drewN (Below.refl _ _) _ | exact Below.drew (Below.refl _ _))) (Wi.of_grown HG.out (fun g e => by injection e with e; omega)))
    have hy0 := HE.out.at (i := 0) rfl
    have hy1 := HE.out.at (i := 1) rfl
    clear HG hx0 hx1
    go_wp2_with fail
    go_quiet (fail)
    go_wp2_with fail
    go_ret
    rw [HQ.out]
    refine ⟨?_, HE.out.drewN _, HW.out.trans (Wi.any (below_drewN (Below.refl _ _) _))⟩
    show _ = Ending.returned (Value.string (tx ((T.data.toList.drop a).take n)))
    rw [HX.out]; rfl

end Go.Proofs.Ytfckfdaloamkdaa
