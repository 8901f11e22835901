/- Contracts: RecoverJournal by the reference. -/
import Derived.Test.YtebahccjaieajaaGreatDoorK93
namespace Go.Proofs.YtebahccjaieajaaGreatDoor
set_option linter.unusedSimpArgs false
set_option linter.unusedVariables false
set_option maxRecDepth 100000
set_option maxHeartbeats 4000000
open Go.RowKit
attribute [local go_sem] run_store_float run_store_complex alloc_drewN setCell_drewN

theorem indexByte_first (c : UInt8) : ∀ {a : List UInt8} (r : List UInt8), c ∉ a → Lib.indexByte (a ++ c :: r) c = a.length
  | [], r, _ => by simp [Lib.indexByte]
  | b :: a, r, h => by
    have h1 : b ≠ c := fun e => h (by simp [e])
    have h2 : c ∉ a := fun e => h (by simp [e])
    rw [List.cons_append, Lib.indexByte, indexByte_first c r h2]
    have h3 : (b == c) = false := beq_eq_false_iff_ne.2 h1
    rw [h3]
    simp only [Bool.false_eq_true, if_false, List.length_cons]
    rw [if_neg (by rw [beq_iff_eq]; omega)]
    omega
theorem indexByte_miss (c : UInt8) : ∀ {a : List UInt8}, c ∉ a → Lib.indexByte a c = -1
  | [], _ => rfl
  | b :: a, h => by
    have h1 : b ≠ c := fun e => h (by simp [e])
    have h2 : c ∉ a := fun e => h (by simp [e])
    have h3 : (b == c) = false := beq_eq_false_iff_ne.2 h1
    rw [Lib.indexByte, indexByte_miss c h2, h3]
    rfl
theorem cut_at {a r : List UInt8} {c : UInt8} (h : c ∉ a) : Lib.cut (a ++ c :: r) [c] = (a, r, true) := by
  rw [Lib.cut, Lib.index_one, indexByte_first c r h, if_pos (by omega)]
  simp
theorem cut_none {a : List UInt8} {c : UInt8} (h : c ∉ a) : Lib.cut a [c] = (a, [], false) := by
  rw [Lib.cut, Lib.index_one, indexByte_miss c h, if_neg (by omega)]
theorem cutC_mem_len (c : UInt8) : ∀ (l : List UInt8) {x : List UInt8}, x ∈ cutC c l → x.length ≤ l.length
  | [], x, h => by simp only [cutC, List.mem_singleton] at h; simp [h]
  | b :: l, x, h => by
    rw [cutC] at h
    by_cases hb : b = c
    · rw [if_pos hb] at h
      rcases List.mem_cons.1 h with h | h
      · simp [h]
      · have := cutC_mem_len c l h; simp only [List.length_cons]; omega
    · rw [if_neg hb] at h
      cases hc : cutC c l with
      | nil => exact absurd hc (cutC_ne c l)
      | cons y t =>
        rw [hc] at h
        rcases List.mem_cons.1 h with h | h
        · subst h
          have := cutC_mem_len c l (x := y) (by rw [hc]; simp)
          simp only [List.length_cons]; omega
        · have := cutC_mem_len c l (x := x) (by rw [hc]; simp [h])
          simp only [List.length_cons]; omega
theorem split_at {s : ByteArray} {m : Nat} (hm : m < s.size) {c : UInt8} (h : s[m] = c) : s.data.toList = s.data.toList.take m ++ c :: s.data.toList.drop (m + 1) := by
  rw [← h, ← data_at s hm, List.getElem_cons_drop, List.take_append_drop]
theorem piece_to (s : ByteArray) (m : Nat) : s.extract 0 m = tx (s.data.toList.take m) := by rw [tx_piece]; simp
theorem piece_from (s : ByteArray) (m : Nat) : s.extract m s.size = tx (s.data.toList.drop m) := by
  rw [tx_piece, List.take_of_length_le (by rw [List.length_drop, data_len]; exact Nat.le_refl _)]
/-- How far the recovery has come. -/
def RcAt (all : List (List UInt8) × Nat) (rest : List (List UInt8)) (ck : Int) (done : List (List UInt8)) (n : Nat) : Prop := all = (done ++ (rcv ck rest).1, n + (rcv ck rest).2)
theorem RcAt.start (ls : List (List UInt8)) : RcAt (rcv 0 ls) ls 0 [] 0 := by simp [RcAt]
theorem RcAt.stop {all : List (List UInt8) × Nat} {rest : List (List UInt8)} {ck : Int} {done : List (List UInt8)} {n : Nat} (h : RcAt all rest ck done n) (h2 : rcv ck rest = ([], 0)) : all = (done, n) := by rw [h, h2]; simp
theorem RcAt.step {all : List (List UInt8) × Nat} {l w x : List UInt8} {ls : List (List UInt8)} {ck : Int} {done : List (List UInt8)} {n : Nat} (h : RcAt all (l :: ls) ck done n) (h1 : Lib.cut l [32] = (w, x, true)) (h2 : w = Lib.itoa (ckL ck x)) : RcAt all ls (ckL ck x) (done ++ [x]) (n + (l.length + 1)) := by
  rw [RcAt, h, rcv_hit h1 h2, List.append_assoc]
  simp only [List.singleton_append, Prod.mk.injEq, true_and]
  omega

end Go.Proofs.YtebahccjaieajaaGreatDoor
