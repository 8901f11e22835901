/- Contracts: JournalOf, CountOutputs by the reference. -/
import Derived.Test.YtebahccjaieajaaGreatDoorK92
namespace Go.Proofs.YtebahccjaieajaaGreatDoor
set_option linter.unusedSimpArgs false
set_option linter.unusedVariables false
set_option maxRecDepth 100000
set_option maxHeartbeats 4000000
open Go.RowKit
attribute [local go_sem] run_store_float run_store_complex alloc_drewN setCell_drewN

theorem noNl_of {l : List UInt8} (h : (10 : UInt8) ∉ l) : noNl l = true := by
  simp only [noNl, Bool.not_eq_true', List.contains_eq_mem, decide_eq_false_iff_not]
  exact h
theorem noNl_no {l : List UInt8} (h : (10 : UInt8) ∈ l) : noNl l = false := by
  simp only [noNl, Bool.not_eq_false', List.contains_eq_mem, decide_eq_true_eq]
  exact h
theorem take_mem {s : ByteArray} {k : Nat} {c : UInt8} (hk : k < s.size) (h : c ∉ s.data.toList.take k) (hne : s[k] ≠ c) : c ∉ s.data.toList.take (k + 1) := by
  rw [bytes_take_snoc s k hk, List.mem_append, not_or]
  exact ⟨h, by simpa using Ne.symm hne⟩
theorem at_mem {s : ByteArray} {k : Nat} (hk : k < s.size) : s[k] ∈ s.data.toList := by
  rw [← data_at s hk]; exact List.getElem_mem _
theorem byte_ne {s : ByteArray} {k : Nat} (hk : k < s.size) {c : UInt8} (h : s[k] ≠ c) : (((s[k].toNat : Nat) : Int) == ((c.toNat : Nat) : Int)) = false := by
  rw [beq_eq_false_iff_ne]
  intro e
  exact h (UInt8.toNat_inj.1 (by omega))

theorem bad_no {ls : List (List UInt8)} {k : Nat} (h : ls.getD k [] = [110, 111]) : badTo ls (k + 1) = badTo ls k + 1 := by rw [badTo, if_pos (.inl h)]
theorem bad_what {ls : List (List UInt8)} {k : Nat} (h : ls.getD k [] = [119, 104, 97, 116]) : badTo ls (k + 1) = badTo ls k + 1 := by rw [badTo, if_pos (.inr h)]
theorem bad_good {ls : List (List UInt8)} {k : Nat} (h : ls.getD k [] ≠ [110, 111]) (h2 : ls.getD k [] ≠ [119, 104, 97, 116]) : badTo ls (k + 1) = badTo ls k := by
  rw [badTo, if_neg (by rintro (e | e); exact h e; exact h2 e)]; rfl
theorem str_ne2 {s s' : ByteArray} (h : s ≠ s') : (s.toList == s'.toList) = false := by
  rw [beq_eq_false_iff_ne]
  intro e
  rw [ByteArray.toList_eq, ByteArray.toList_eq] at e
  exact h (ByteArray.ext (Array.toList_inj.1 e))
theorem str_ne3 {x : ByteArray} {l : List UInt8} (h : x ≠ tx l) : ¬ x.toList = l := by
  intro e
  rw [ByteArray.toList_eq] at e
  exact h (by rw [← e, data_tx])
theorem str_ne4 {x : ByteArray} {l : List UInt8} (h : x ≠ tx l) : (x.toList == l) = false := beq_eq_false_iff_ne.2 (str_ne3 h)
theorem str_full {x : ByteArray} (h : x ≠ ⟨#[]⟩) : x.toList.isEmpty = false := by
  rw [ByteArray.toList_eq]
  cases hx : x.data.toList with
  | nil => exact absurd (show x = ⟨#[]⟩ by rw [← data_tx x, hx]; rfl) h
  | cons a l => rfl
theorem str_beq {a b : ByteArray} : (a.toList == b.toList) = decide (a = b) := by
  by_cases h : a = b
  · subst h; simp
  · rw [str_ne2 h, decide_eq_false h]

end Go.Proofs.YtebahccjaieajaaGreatDoor
