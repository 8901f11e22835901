/- Contracts: texts of numbers, by the program. -/
import Derived.Test.YtebahccjaieajaaGreatDoorK102
import Derived.Test.YtebahccjaieajaaGreatDoorK104
import Derived.Lib.Join
namespace Go.Proofs.YtebahccjaieajaaGreatDoor
set_option linter.unusedSimpArgs false
set_option linter.unusedVariables false
set_option maxRecDepth 100000
set_option maxHeartbeats 4000000
open Go.RowKit
attribute [local go_sem] run_store_float run_store_complex alloc_drewN setCell_drewN

theorem join_snoc (sep y : List UInt8) : ∀ {xs : List (List UInt8)}, xs ≠ [] → Lib.join (xs ++ [y]) sep = Lib.join xs sep ++ sep ++ y
  | [], h => absurd rfl h
  | x :: r, _ => by
    rw [List.cons_append, Lib.join_cons, Lib.join_cons]
    simp [Lib.joinTail]
theorem hxTo_join (cs : List Nat) : ∀ k, k < cs.length → hxTo cs (k + 1) = Lib.join ((cs.take (k + 1)).map hex8) [44]
  | 0, h => by
    rw [hxTo, if_pos rfl, List.nil_append, List.take_succ_eq_append_getElem h, List.take_zero, List.nil_append, List.map_singleton, Lib.join_one, List.getD_eq_getElem?_getD, List.getElem?_eq_getElem h]
    rfl
  | k + 1, h => by
    have hne : (cs.take (k + 1)).map hex8 ≠ [] := by
      intro e
      have := congrArg List.length e
      rw [List.length_map, List.length_take] at this
      simp only [List.length_nil] at this
      omega
    rw [hxTo, if_neg (by omega), hxTo_join cs k (by omega), List.take_succ_eq_append_getElem h, List.map_append, List.map_singleton, join_snoc _ _ hne, List.getD_eq_getElem?_getD, List.getElem?_eq_getElem h]
    rfl
theorem hxAll_join {cs : List Nat} (h : cs ≠ []) : hxAll cs = Lib.join (cs.map hex8) [44] := by
  have hp := List.length_pos_iff.2 h
  obtain ⟨k, hk⟩ : ∃ k, cs.length = k + 1 := ⟨cs.length - 1, by omega⟩
  rw [hxAll, if_neg h, hk, hxTo_join cs k (by omega), ← hk, List.take_length]
theorem hxAll_len (cs : List Nat) (h : cs.length ≤ 100000) : (hxAll cs).length ≤ 1000000 := by
  rw [hxAll]
  split
  · simp
  · rename_i hne
    have hp := List.length_pos_iff.2 hne
    obtain ⟨k, hk⟩ : ∃ k, cs.length = k + 1 := ⟨cs.length - 1, by omega⟩
    rw [hk, hxTo_len]
    omega
/-- The texts of the numbers. -/
def hxs (cs : List Nat) : List ByteArray := cs.map fun c => tx (hex8 c)
theorem hxs_len (cs : List Nat) : (hxs cs).length = cs.length := List.length_map ..
theorem hxs_data (cs : List Nat) : (hxs cs).map (·.data.toList) = cs.map hex8 := by
  rw [hxs, List.map_map]
  exact List.map_congr_left fun c _ => tx_data _
theorem hxs_snoc (cs : List Nat) (c : Nat) : hxs cs ++ [tx (hex8 c)] = hxs (cs ++ [c]) := by simp [hxs]

theorem i_joined (v : Value) (cs : List Nat) (w : World) (hv : GL Value.string w v (hxs cs)) (hl : cs.length ≤ 100000) :
    Calls Tryz.prog 41 #[v] w fun e w' => e = .returned (.string (tx (hxAll cs))) ∧ Below w.heap.size w w' := by
  obtain ⟨ao, c, rfl, hlen, hcell⟩ := hv
  have hln := hxs_len cs
  by_cases h0 : cs = []
  · have hx0 : (hxs cs).length = 0 := by rw [hln, h0]; rfl
    have HA := Lib.hid (show hxAll cs = [110, 111, 110, 101] by rw [hxAll, if_pos h0])
    clear hcell
    go_enter Tryz.func41, Tryz.ntmps41
    go_wp2_with fail
    go_ret
    exact ⟨by rw [HA.out]; rfl, Below.refl _ _⟩
  have hpos : 0 < (hxs cs).length := by rw [hln]; exact List.length_pos_iff.2 h0
  have hne : (((hxs cs).length : Int) == 0) = false := by rw [beq_eq_false_iff_ne]; omega
  obtain ⟨b, off, rfl, hbl, hc0⟩ := hcell 0 hpos
  have HJ := Lib.hid (Tryz.strings_Join b off c (hxs cs) ⟨#[44]⟩ w (fun j x hj => by
    obtain ⟨h1, h2⟩ := List.getElem?_eq_some_iff.1 hj
    obtain ⟨b', off', e1, _, e3⟩ := hcell j h1
    injection e1 with e1
    injection e1 with e1 e4
    subst e1 e4
    rw [← h2]
    exact e3) hbl (by omega) hlen.1 (by
      rw [hxs_data]
      have h3 := hxAll_len cs hl
      rw [hxAll_join h0] at h3
      show (Lib.join _ [44]).length ≤ _
      omega))
  have HA := Lib.hid (show (⟨(Lib.join ((hxs cs).map (·.data.toList)) (⟨#[44]⟩ : ByteArray).data.toList).toArray⟩ : ByteArray) = tx (hxAll cs) by rw [hxs_data, hxAll_join h0]; rfl)
  rw [HA.out] at HJ
  clear hcell hc0
  obtain ⟨N, hN⟩ : ∃ N, N = (hxs cs).length := ⟨_, rfl⟩
  rw [← hN] at hpos hne HJ hlen ⊢
  clear hN hln
  go_enter Tryz.func41, Tryz.ntmps41
  go_wp2_with fail
  refine HJ.out.mono ?_; rintro e w1 ⟨rfl, hb⟩
  go_wp2_with fail
  go_ret
  exact ⟨rfl, hb⟩

end Go.Proofs.YtebahccjaieajaaGreatDoor
