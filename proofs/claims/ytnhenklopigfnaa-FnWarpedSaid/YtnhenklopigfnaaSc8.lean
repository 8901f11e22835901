/- What FnDrift draws: small eighths, bounded; its charts are finite. Plain. -/
import Derived.Test.YtnhenklopigfnaaK150
import Derived.Test.YtnhenklopigfnaaK80
import Derived.Test.YtnhenklopigfnaaDr8
namespace Go.Proofs.Ytnhenklopigfnaa
set_option linter.unusedSimpArgs false
set_option linter.unusedVariables false
set_option maxRecDepth 100000
set_option maxHeartbeats 4000000
open Go.RowKit
def bdB (c e : Nat) : Bool := decide (c < 4294967296) && decide (c % 2147483648 ≤ (e + 127) * 8388608)
theorem bd_of {c e : Nat} (h : bdB c e = true) : Bd c e := by
  unfold bdB at h
  simp only [Bool.and_eq_true, decide_eq_true_eq] at h
  exact h
/-- The numbers that are drawn: a quarter of a number from -16 to 16. -/
theorem q4_all : ∀ i : Fin 33, (evB (q4 ((i.val : Int) - 16)) (2 * ((i.val : Int) - 16)) && bdB (q4 ((i.val : Int) - 16)) 2) = true := by decide +kernel
theorem q4_ev {x : Int} (h1 : -16 ≤ x) (h2 : x ≤ 16) : Ev (q4 x) (2 * x) ∧ Bd (q4 x) 2 := by
  have h := q4_all ⟨(x + 16).toNat, by omega⟩
  have e : (((x + 16).toNat : Nat) : Int) - 16 = x := by omega
  simp only [e, Bool.and_eq_true] at h
  exact ⟨ev_of h.1, bd_of h.2⟩
theorem scS_bd {m : Nat} {cs : List Nat} (hm : Bd m 2) (hc : ∀ i, i < cs.length → Bd (cs.getD i 0) 2) : ∀ j, j ≤ cs.length → j ≤ 19 → Bd (scS m cs j) (2 + 5 * j)
  | 0, _, _ => hm
  | j + 1, h, h1 => by
    have ih := scS_bd hm hc j (by omega) (by omega)
    exact ih.step ((hc j (by omega)).mono (by omega)) (by omega)
theorem scOk_of {m : Nat} {cs : List Nat} (hm : Bd m 2) (hc : ∀ i, i < cs.length → Bd (cs.getD i 0) 2) (hl : cs.length ≤ 19) : scOk m cs := by
  intro i hi
  have h0 := scS_bd hm hc i (by omega) (by omega)
  have h1 := scS_bd hm hc (i + 1) (by omega) (by omega)
  have hx := hc i hi
  have h2 := (hx.mono (show 2 ≤ 2 + 5 * i by omega)).sub h0 (by omega)
  have h3 := h2.quarter (by omega)
  have h4 := h1.sub (hm.mono (show 2 ≤ 2 + 5 * (i + 1) by omega)) (by omega)
  exact ⟨hx.fin (by omega), h2.fin (by omega), h3.fin (by omega), h1.fin (by omega), h4.fin (by omega), h1.1, h4.1⟩
/-- A chart of what stays at the mean: nothing is told. -/
theorem sc_steady {m : Nat} {M : Int} (hm : Ev m M) {cs : List Nat} (hc : ∀ i, i < cs.length → cs.getD i 0 = m) (hM : M.natAbs ≤ 1000) : ∀ j, j ≤ cs.length → Ev (scS m cs j) M
  | 0, _ => hm
  | j + 1, h => by
    have ih := sc_steady hm hc hM j (by omega)
    have h1 := hm.sub ih (by rw [Int.sub_self]; decide)
    rw [Int.sub_self] at h1
    have h2 : Ev (mulF 1048576000 (subF m (scS m cs j))) 0 := ev_quarter0 h1
    rw [scS, hc j (by omega)]
    have h3 := ih.add h2 (by omega)
    rw [Int.add_zero] at h3
    exact h3
where
  ev_quarter0 {d : Nat} (h : Ev d 0) : Ev (mulF 1048576000 d) 0 := by
    rcases Ev.same.ev_zeros h with rfl | rfl
    · exact ev_of (by decide +kernel)
    · exact ev_of (by decide +kernel)
theorem sc_steady_none {m k : Nat} {M : Int} (hm : Ev m M) {cs : List Nat} (hc : ∀ i, i < cs.length → cs.getD i 0 = m) (hM : M.natAbs ≤ 1000) (hk : k = 0) : ∀ n, n ≤ cs.length → scL m k cs n = []
  | 0, _ => rfl
  | n + 1, h => by
    have ih := sc_steady_none hm hc hM hk n (by omega)
    have h1 := (sc_steady hm hc hM (n + 1) h).sub hm (by rw [Int.sub_self]; decide)
    rw [Int.sub_self] at h1
    have h2 : scFar m k cs n = false := by
      unfold scFar
      rw [hk]
      rcases Ev.same.ev_zeros h1 with e | e <;> rw [e] <;> decide +kernel
    rw [scL, ih, h2]
    rfl

end Go.Proofs.Ytnhenklopigfnaa
