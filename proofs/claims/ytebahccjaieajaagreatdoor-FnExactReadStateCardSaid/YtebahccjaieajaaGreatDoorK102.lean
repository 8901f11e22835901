/- Contracts: a number's bits in hexadecimal, by the program. -/
import Derived.Test.YtebahccjaieajaaGreatDoorK101
import Derived.Test.YtebahccjaieajaaGreatDoorK95
namespace Go.Proofs.YtebahccjaieajaaGreatDoor
set_option linter.unusedSimpArgs false
set_option linter.unusedVariables false
set_option maxRecDepth 100000
set_option maxHeartbeats 4000000
open Go.RowKit
attribute [local go_sem] run_store_float run_store_complex alloc_drewN setCell_drewN

theorem repeat48 : ∀ c, Lib.repeatL [48] c = List.replicate c 48
  | 0 => rfl
  | c + 1 => by rw [Lib.repeatL, repeat48 c]; rfl

theorem f_FormatInt16 (n : Nat) (hn : n < 4294967296) (w : World) (hdb : w.cell? ⟨8, 15, none⟩ = some (.int .u8 4)) :
    Calls Tryz.prog 62 #[.int .i64 (n : Int), .int .i64 16] w fun e w' => e = .returned (.string (tx (hexN n))) ∧ Below w.heap.size w w' := by
  have h0 : ¬ ((n : Int) < 0) := by omega
  have h1 : IntKind.u64.wrap (n : Int) = (n : Int) := by rw [IntKind.wrap_u64]; omega
  go_enter Tryz.func62, Tryz.ntmps62
  go_wp2_with fail
  refine (f_formatBits n hn _ hdb).mono ?_; rintro e w1 ⟨rfl, hb⟩
  go_wp2_with fail
  go_ret
  exact ⟨rfl, hb⟩
theorem f_FormatIntS (n : Nat) (hn : n < 4294967296) (w : World) (hdb : w.cell? ⟨8, 15, none⟩ = some (.int .u8 4)) :
    Calls Tryz.prog 45 #[.int .i64 (n : Int), .int .i64 16] w fun e w' => e = .returned (.string (tx (hexN n))) ∧ Below w.heap.size w w' := by
  go_enter Tryz.func45, Tryz.ntmps45
  go_wp2_with fail
  refine (f_FormatInt16 n hn _ hdb).mono ?_; rintro e w1 ⟨rfl, hb⟩
  go_wp2_with fail
  go_ret
  exact ⟨rfl, hb⟩

theorem i_hexOf (x : Nat) (hx0 : x < 4294967296) (w : World) (hdb : w.cell? ⟨8, 15, none⟩ = some (.int .u8 4)) :
    Calls Tryz.prog 40 #[.float .f32 x] w fun e w' => e = .returned (.string (tx (hex8 (cn .f32 x)))) ∧ Below w.heap.size w w' := by
  have hn : cn .f32 x < 4294967296 := cn_lt hx0
  generalize hN : cn .f32 x = n at hn
  have HN := Lib.hid hN
  clear hN
  obtain ⟨h8, hp⟩ := hex8_pad hn
  have hl := block_lt_of_cell hdb
  obtain ⟨L, hL⟩ : ∃ L, L = (hexN n).length := ⟨_, rfl⟩
  have HP := Lib.hid (show (⟨(Lib.repeatL (⟨#[48]⟩ : ByteArray).data.toList (8 - L)).toArray⟩ : ByteArray) ++ tx (hexN n) = tx (hex8 n) by
    show tx (Lib.repeatL [48] (8 - L)) ++ _ = _
    rw [tx_append, repeat48, hL, hp])
  have hz : (tx (hexN n)).size = L := (tx_size _).trans hL.symm
  have hz2 : (⟨(Lib.repeatL (⟨#[48]⟩ : ByteArray).data.toList (8 - L)).toArray⟩ : ByteArray).size = 8 - L := by
    show (tx (Lib.repeatL [48] (8 - L))).size = _
    rw [tx_size, repeat48, List.length_replicate]
  rw [← hL] at h8
  clear hL hp
  have HR := Lib.hid (fun w => Tryz.strings_Repeat ⟨#[48]⟩ (8 - L) w (by omega) (by show 1 * (8 - L) ≤ _; omega))
  generalize (⟨(Lib.repeatL (⟨#[48]⟩ : ByteArray).data.toList (8 - L)).toArray⟩ : ByteArray) = z at *
  go_enter Tryz.func40, Tryz.ntmps40
  go_wp2_with fail
  refine (i_BitsOf x hx0 _).mono ?_; rintro e w1 ⟨rfl, hd⟩
  rw [HN.out]
  have hb1 := hd.below w.heap.size
  have hc1 := (hb1.cell (p := ⟨8, 15, none⟩) hl).trans hdb
  clear hd hdb
  go_wp2_with fail
  refine (f_FormatIntS n hn _ hc1).mono ?_; rintro e w2 ⟨rfl, hb⟩
  have hb2 := hb1.trans (hb.mono hb1.size)
  clear hb hb1
  generalize tx (hexN n) = t at *
  have hsub : (8 : Int) - (L : Int) = ((8 - L : Nat) : Int) := by omega
  go_wp2_with fail
  refine (HR.out _).mono ?_; rintro e w3 ⟨rfl, hb⟩
  have hb3 := hb2.trans (hb.mono hb2.size)
  go_wp2_with fail
  go_ret
  exact ⟨by rw [← HP.out]; rfl, hb3⟩

end Go.Proofs.YtebahccjaieajaaGreatDoor
