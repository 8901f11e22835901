/- Contracts: texts of numbers, by the reference. -/
import Derived.Test.YtebahccjaieajaaDoorK100
namespace Go.Proofs.YtebahccjaieajaaDoor
set_option linter.unusedSimpArgs false
set_option linter.unusedVariables false
set_option maxRecDepth 100000
set_option maxHeartbeats 4000000
open Go.RowKit
attribute [local go_sem] run_store_float run_store_complex alloc_drewN setCell_drewN

/-- The text of the first k numbers. -/
def hxTo (cs : List Nat) : Nat → List UInt8
  | 0 => []
  | k + 1 => (if k = 0 then [] else hxTo cs k ++ [44]) ++ hex8 (cs.getD k 0)
theorem hex8_len (n : Nat) : (hex8 n).length = 8 := hexM_length 8 n
theorem hxTo_len (cs : List Nat) : ∀ k, (hxTo cs (k + 1)).length = 9 * k + 8
  | 0 => by rw [hxTo, if_pos rfl, List.nil_append, hex8_len]
  | k + 1 => by
    rw [hxTo, if_neg (by omega), List.length_append, List.length_append, hxTo_len cs k, hex8_len]
    simp only [List.length_cons, List.length_nil]
    omega
def hxAll (cs : List Nat) : List UInt8 := if cs = [] then [110, 111, 110, 101] else hxTo cs cs.length

theorem s_l01NText (v : Value) (cs : List Nat) (w : World) (hv : SB w v cs) (hl : cs.length ≤ 1000000) :
    Calls Tryd.prog 44 #[v] w fun e w' => e = .returned (.string (tx (hxAll cs))) ∧ Below w.heap.size w w' := by
  obtain ⟨ao, c, xs, rfl, hxs, hc, hlt, hcell⟩ := hv
  have hlen : xs.length = cs.length := by rw [← hxs, List.length_map]
  have HXS := Lib.hid hxs
  have HC := Lib.hid hcell
  have HLT := Lib.hid (fun k (hk : k < xs.length) => hlt _ (List.getElem_mem hk))
  have HG := Lib.hid (fun k (hk : k < xs.length) => show cs.getD k 0 = cn .f32 xs[k] by
    rw [← hxs, List.getD_eq_getElem?_getD, List.getElem?_map, List.getElem?_eq_getElem hk]; rfl)
  clear hcell hlt hxs
  by_cases h0 : cs = []
  · have hx0 : xs.length = 0 := by rw [hlen, h0]; rfl
    have HA := Lib.hid (show hxAll cs = [110, 111, 110, 101] by rw [hxAll, if_pos h0])
    go_enter Tryd.func44, Tryd.ntmps44
    go_wp2_with fail
    go_ret
    exact ⟨by rw [HA.out]; rfl, Below.refl _ _⟩
  have hpos : 0 < xs.length := by rw [hlen]; exact List.length_pos_iff.2 h0
  have hne : ((xs.length : Int) == 0) = false := by rw [beq_eq_false_iff_ne]; omega
  have HA := Lib.hid (show hxAll cs = hxTo cs xs.length by rw [hxAll, if_neg h0, hlen])
  obtain ⟨b, off, rfl, hbl, hc0⟩ := HC.out 0 hpos
  have HCA := Lib.hid (fun k (hk : k < xs.length) => show w.cell? ⟨b, off + k, none⟩ = some (.float .f32 xs[k]) by
    obtain ⟨b', off', e1, _, e3⟩ := HC.out k hk
    injection e1 with e1
    injection e1 with e1 e4
    subst e1 e4
    exact e3)
  rw [Nat.add_zero] at hc0
  have H1 := Lib.hid (show hxTo cs 1 = hex8 (cn .f32 xs[0]) by rw [hxTo, if_pos rfl, List.nil_append, HG.out 0 hpos])
  have hl0 := HLT.out 0 hpos
  obtain ⟨x0, hx0⟩ : ∃ x0, x0 = xs[0] := ⟨_, rfl⟩
  rw [← hx0] at H1 hl0 hc0
  clear hx0 HC
  obtain ⟨N, hN⟩ : ∃ N, N = xs.length := ⟨_, rfl⟩
  rw [← hN] at hpos hne hc hlen
  go_enter Tryd.func44, Tryd.ntmps44
  go_wp2_with fail
  refine (s_l01Hex x0 hl0 _).mono ?_; rintro e w1 ⟨rfl, hb⟩
  rw [← H1.out]
  go_wp2_with fail
  go_loopw [3, 4] (fun o i wr => ∃ k : Nat, k < xs.length ∧ i = .int .i64 ((k : Int) + 1) ∧ o = .string (tx (hxTo cs (k + 1))) ∧ Below w.heap.size w wr) (fun _ i _ => xs.length - (intOf i).toNat)
  case atStart => exact ⟨0, by omega, rfl, rfl, hb⟩
  case round =>
    obtain ⟨k, hk, rfl, rfl, hbr⟩ := hrel
    by_cases hgo : k + 1 < xs.length
    · have hcl := (hbr.cell (p := ⟨b, off + (k + 1), none⟩) hbl).trans (HCA.out (k + 1) hgo)
      have HT := Lib.hid (show hxTo cs (k + 2) = hxTo cs (k + 1) ++ ([44] ++ hex8 (cn .f32 xs[k + 1])) by rw [hxTo, if_neg (by omega), HG.out (k + 1) hgo, List.append_assoc])
      have hlk := HLT.out (k + 1) hgo
      have hz1 : (tx (hxTo cs (k + 1))).size = 9 * k + 8 := (tx_size _).trans (hxTo_len cs k)
      obtain ⟨x, hx⟩ : ∃ x, x = xs[k + 1] := ⟨_, rfl⟩
      rw [← hx] at hcl HT hlk
      have hz2 : (tx (hex8 (cn .f32 x))).size = 8 := (tx_size _).trans (hex8_len _)
      have HE := Lib.hid (show tx (hxTo cs (k + 1)) ++ ((⟨#[44]⟩ : ByteArray) ++ tx (hex8 (cn .f32 x))) = tx (hxTo cs (k + 2)) by rw [HT.out, ← tx_append, ← tx_append]; rfl)
      clear hx HT
      have HH := Lib.hid (s_l01Hex x hlk)
      generalize tx (hxTo cs (k + 1)) = a0 at *
      generalize tx (hex8 (cn .f32 x)) = a1 at *
      have hkc : (k : Int) + 1 < (N : Int) := by omega
      go_wp2_with fail
      refine (HH.out _).mono ?_; rintro e w2 ⟨rfl, hb2⟩
      go_wp2_with fail
      exact ⟨⟨k + 1, hgo, by go_num, by rw [HE.out], hbr.trans (hb2.mono hbr.size)⟩, by simp [intOf]; omega⟩
    · have hke : k + 1 = xs.length := by omega
      have hng : ¬ ((k : Int) + 1 < (N : Int)) := by omega
      go_wp2_with fail
      go_ret
      exact ⟨by rw [HA.out, ← hke]; rfl, hbr⟩

end Go.Proofs.YtebahccjaieajaaDoor
