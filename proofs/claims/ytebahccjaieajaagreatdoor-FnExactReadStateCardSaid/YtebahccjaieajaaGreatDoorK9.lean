/- Contracts: what is saved, and whether it is valid. -/
import Derived.Test.YtebahccjaieajaaGreatDoorK6
import Derived.Deep.RegionWith
import Derived.Deep.RegionHeld
namespace Go.Proofs.YtebahccjaieajaaGreatDoor
set_option linter.unusedSimpArgs false
set_option linter.unusedVariables false
set_option maxRecDepth 100000
set_option maxHeartbeats 4000000
set_option linter.unusedSimpArgs false
set_option linter.unusedVariables false
open Go.RowKit
attribute [local go_sem] run_store_float run_store_complex alloc_drewN setCell_drewN

def lowB (b : UInt8) : Bool := decide (97 ≤ (b.toNat : Int)) && decide ((b.toNat : Int) ≤ 122)
/-- 1 to 8 letters. -/
def nameB (s : ByteArray) : Bool := s.data.toList.all lowB && decide (1 ≤ s.size) && decide (s.size ≤ 8)
def savedOk (s : ByteArray) (d : Int) (cs : List Nat) : Bool := nameB s && inB d (-1000000) 1000000 && series cs
theorem SB.slice {w : World} {v : Value} {cs : List Nat} (h : SB w v cs) : ∃ ao c, v = .slice ao cs.length c ∧ cs.length ≤ 9223372036854775807 := h.sl.slice

theorem name_take {s : ByteArray} {k : Nat} (hk : k < s.size) (h1 : (s.data.toList.take k).all lowB = true) (h2 : lowB s[k] = true) : (s.data.toList.take (k + 1)).all lowB = true := by
  have hl : k < s.data.toList.length := by simpa using hk
  rw [take_snoc _ k hl, List.all_append, h1]
  have : s.data.toList[k] = s[k] := by simp [ByteArray.getElem_eq_getElem_data]
  simp [this, h2]
theorem name_no {s : ByteArray} {k : Nat} (hk : k < s.size) (h2 : lowB s[k] = false) : nameB s = false := by
  have hl : k < s.data.toList.length := by simpa using hk
  have : s.data.toList[k] = s[k] := by simp [ByteArray.getElem_eq_getElem_data]
  have h3 : s.data.toList.all lowB = false := by
    rw [List.all_eq_false]
    exact ⟨s.data.toList[k], List.getElem_mem hl, by rw [this, h2]; simp⟩
  simp [nameB, h3]

theorem OW.setBelow {T base : Nat} {w : World} {v : Value} {cs : List Nat} (h : OW T base w v cs) {a : Addr} (ha : a.block < base) (u : Value) : OW T base (w.setCell a u) v cs := by
  obtain ⟨xs, h1, h2⟩ := h
  exact ⟨xs, ownsRow_setCell_below h1 ha u, h2⟩

end Go.Proofs.YtebahccjaieajaaGreatDoor
