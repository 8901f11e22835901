/- Contracts: numbers in hexadecimal, by the reference. -/
import Derived.Test.YtebahccjaieajaaGreatDoorK91
import Derived.Test.YtebahccjaieajaaGreatDoorK3
import Derived.Test.YtebahccjaieajaaGreatDoorHx
namespace Go.Proofs.YtebahccjaieajaaGreatDoor
set_option linter.unusedSimpArgs false
set_option linter.unusedVariables false
set_option maxRecDepth 100000
set_option maxHeartbeats 4000000
open Go.RowKit
attribute [local go_sem] run_store_float run_store_complex alloc_drewN setCell_drewN
theorem and15 (a : Nat) (ha : a < 9223372036854775808) : bits .and .i64 (a : Int) 15 = ((a % 16 : Nat) : Int) := by
  have h1 : (BitVec.ofInt 64 (a : Int)).toNat = a := by
    rw [BitVec.ofInt_natCast, BitVec.toNat_ofNat]; exact Nat.mod_eq_of_lt (by omega)
  have h2 : (BitVec.ofInt 64 (15 : Int)).toNat = 15 := by decide
  show IntKind.i64.wrap ((BitVec.ofInt 64 (a : Int) &&& BitVec.ofInt 64 15).toNat : Int) = _
  rw [BitVec.toNat_and, h1, h2, Nat.and_two_pow_sub_one_eq_mod a 4, IntKind.wrap_i64]
  omega
theorem hexIx (d : Nat) (hd : d < 16) (h) : ((⟨#[48, 49, 50, 51, 52, 53, 54, 55, 56, 57, 97, 98, 99, 100, 101, 102]⟩ : ByteArray)[d]'h).toNat = (hx d).toNat := by
  have h1 := hexDigits_at hd
  rw [List.getElem?_eq_getElem (by simpa [hexDigits] using hd)] at h1
  exact congrArg UInt8.toNat (Option.some.inj h1)

end Go.Proofs.YtebahccjaieajaaGreatDoor
