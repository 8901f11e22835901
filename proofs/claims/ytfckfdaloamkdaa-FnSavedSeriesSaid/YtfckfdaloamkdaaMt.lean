/- Contracts: the mark of a number as a text. -/
import Derived.Test.YtfckfdaloamkdaaTx
import Derived.Test.YtfckfdaloamkdaaBy
import Derived.Test.YtfckfdaloamkdaaJn
import Derived.Test.YtfckfdaloamkdaaK10
namespace Go.Proofs.Ytfckfdaloamkdaa
set_option linter.unusedSimpArgs false
set_option linter.unusedVariables false
set_option maxRecDepth 100000
set_option maxHeartbeats 4000000
open Go.RowKit
attribute [local go_sem] run_store_float run_store_complex alloc_drewN setCell_drewN

/-- The mark of a number. -/
def markT (k : Int) : ByteArray := tx (109 :: Lib.decDigits k.natAbs)
theorem tmod_nat {n : Int} (h : 0 ≤ n) : n.tmod 10 = ((n.natAbs % 10 : Nat) : Int) := by
  obtain ⟨h1, h2⟩ := tmod_abs (n := n)
  have : ¬ n.tmod 10 < 0 := by have := Int.tmod_nonneg 10 h; omega
  exact h2 this
theorem decAt_len {m : Nat} {out : List UInt8} {r : Nat} (h : DecAt m out r) : out.length ≤ (Lib.decDigits m).length := by
  rcases h with ⟨rfl, -⟩ | ⟨-, h2⟩
  · simp
  · rw [h2, List.length_append]; omega

theorem oneU8M : OneC Try.prog 48 5 (.int .u8 0) 1 := oneC_of Try.underlying48 (by kernel_rfl) rfl (by decide)
theorem l_markText (k : Int) (h0 : 1 ≤ k) (h1 : k ≤ 2000000000000) (w : World) :
    Calls Try.prog 67 #[.int .i64 k] w fun e w' => e = .returned (.string (markT k)) ∧ Below w.heap.size w w' := by
  have hm : (Lib.decDigits k.natAbs).length ≤ 20 := by
    rw [Lib.decDigits_length]
    exact Nat.le_trans (nDigits_le 18 k.natAbs (by show _ < 10000000000000000000; omega)) (by decide)
  obtain ⟨MT, hMT⟩ : ∃ MT, MT = markT k := ⟨_, rfl⟩
  rw [← hMT]
  go_enter Try.func67, Try.ntmps67
  go_wp2_with fail
  go_loopw [0, 3] (fun q o wr => ∃ (out : List UInt8) (r : Int), q = .int .i64 r ∧ (0 ≤ r ∧ r ≤ 2000000000000) ∧ o = .string (tx out) ∧ (out = [] → 0 < r) ∧ Hid (DecAt k.natAbs out r.natAbs) ∧ Below w.heap.size w wr) (fun q _ _ => (intOf q).toNat)
  case atStart => exact ⟨[], k, rfl, ⟨by omega, h1⟩, rfl, fun _ => by omega, DecAt.start _, Below.refl _ _⟩
  case round =>
    obtain ⟨out, r, rfl, ⟨hr0, hr1⟩, rfl, hz, HD, hb⟩ := hrel
    have hsz := hb.size
    have hl := decAt_len HD.out
    by_cases hr : 0 < r
    · have HN := Lib.hid (HD.out.step (.inr (by omega)))
      have hT := tmod_nat hr0
      have HT := Lib.hid (tdiv_abs r)
      have hq : r.natAbs % 10 < 10 := Nat.mod_lt _ (by decide)
      have HV := Lib.hid (dgt_val hq)
      have hd0 : 0 ≤ r.tdiv 10 := Int.tdiv_nonneg hr0 (by decide)
      have hd1 : r.tdiv 10 < r := by have := HT.out; omega
      obtain ⟨Q, hQ⟩ : ∃ Q : Int, Q = ((r.natAbs % 10 : Nat) : Int) := ⟨_, rfl⟩
      have hQ0 : 0 ≤ Q ∧ Q ≤ 9 := by omega
      rw [← hQ] at hT
      have HB := Lib.hid (show byV (dgt (r.natAbs % 10)) = .int .u8 (48 + Q) by unfold byV; rw [HV.out, hQ])
      have hli := GO.lit2 byV 5 w.heap.size wr [dgt (r.natAbs % 10)] rfl rfl rfl hsz (by simp)
      have RS := run_str oneU8M Try.underlying9 Try.underlying5 hli (by simp)
      simp only [List.map_cons, List.map_nil, HB.out, List.length_cons, List.length_nil, Nat.zero_add] at RS
      have HE := Lib.hid (show (⟨[dgt (r.natAbs % 10)].toArray⟩ : ByteArray) ++ tx out = tx (dgt (r.natAbs % 10) :: out) from tx_append [dgt (r.natAbs % 10)] out)
      have es : (tx out).size = out.length := tx_size _
      have n1 : ¬ 9223372036854775807 < 1 + (tx out).size := by omega
      clear HV hQ hli es
      go_wp2_with fail
      refine ⟨⟨dgt (r.natAbs % 10) :: out, r.tdiv 10, rfl, ⟨hd0, by omega⟩, ?_, (fun h => by simp at h), (by show DecAt _ _ _; rw [HT.out]; exact HN.out), hb.alloc hsz _⟩, by simp only [intOf]; omega⟩
      rw [← HE.out]
    · have hr2 : r = 0 := by omega
      subst hr2
      have hne : out ≠ [] := fun e => by have := hz e; omega
      have HA := Lib.hid (HD.out.all hne)
      have es : (tx out).size = out.length := tx_size _
      have n1 : ¬ 9223372036854775807 < 1 + (tx out).size := by omega
      have HE := Lib.hid (show (⟨#[109]⟩ : ByteArray) ++ tx out = MT by rw [hMT, markT, HA.out]; exact tx_append [109] out)
      clear es hMT
      go_wp2_with fail
      go_ret
      rw [← HE.out]
      exact ⟨rfl, hb⟩

end Go.Proofs.Ytfckfdaloamkdaa
