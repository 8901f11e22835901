/- All that FnWarped asks of warped ways of small eighths. Plain. -/
import Derived.Test.YtkkomajokdlkeaaQ37
namespace Go.Proofs.Ytkkomajokdlkeaa
set_option linter.unusedSimpArgs false
set_option linter.unusedVariables false
set_option maxRecDepth 100000
set_option maxHeartbeats 4000000
open Go.RowKit
theorem Wn.fin {cs ds : List Nat} {A B : Nat → Int} (h : Wn cs ds A B) : series cs = true ∧ series ds = true := by
  have key : ∀ (l : List Nat) (X : Nat → Int), (∀ i, i < l.length → Ev (l.getD i 0) (X i) ∧ (X i).natAbs ≤ 32) → 1 ≤ l.length → l.length ≤ 10 → series l = true := by
    intro l X hl h1 h2
    unfold series allFin
    rw [decide_eq_true h1, decide_eq_true (by omega)]
    rw [List.all_eq_true.2 fun c hc => by
      obtain ⟨i, hi, rfl⟩ := List.getElem_of_mem hc
      have h := (hl i hi).1.fin
      rwa [List.getD_eq_getElem?_getD, List.getElem?_eq_getElem hi] at h]
    rfl
  exact ⟨key cs A h.a h.n.1 h.n.2, key ds B h.b h.m.1 h.m.2⟩
theorem Wn.finC {cs ds : List Nat} {A B : Nat → Int} (h : Wn cs ds A B) (window : Int) : allFin (wpC szI geI cs ds window) = true := by
  unfold allFin
  rw [List.all_eq_true]
  intro c hc
  obtain ⟨t, ht, rfl⟩ := List.getElem_of_mem hc
  have hm := h.m
  rw [wpC_length] at ht
  have hk : t % ds.length < ds.length := Nat.mod_lt _ (by omega)
  have hte : (t / ds.length) * ds.length + t % ds.length = t := by rw [Nat.mul_comm]; exact Nat.div_add_mod _ _
  obtain ⟨z, hz, -⟩ := wc_ev h window (cs.length * ds.length) (Nat.le_refl _) (t / ds.length) (t % ds.length) hk (by omega)
  rw [hte] at hz
  have h1 := hz.fin
  have e : (wList szI geI window cs ds (cs.length * ds.length)).getD t 0 = (wpC szI geI cs ds window)[t] := by
    rw [← wpC, List.getD_eq_getElem?_getD, List.getElem?_eq_getElem (by rw [wpC_length]; exact ht)]; rfl
  rw [e] at h1
  exact h1
theorem warped_all {cs ds : List Nat} {A B : Nat → Int} (h : Wn cs ds A B) {n : Nat} (hc : cs.length = n) (hd : ds.length = n) {window : Int} (hw : 0 ≤ window) (hw2 : window ≤ 96) :
    ∃ last z P, Ev last z ∧ 0 ≤ z ∧ z ≤ sumD A B n ∧ wfarQ szI geI cs ds window = (last, true) ∧ costsQ szI geI cs ds window = (wpC szI geI cs ds window, true) ∧ (wpC szI geI cs ds window).length = n * n ∧ (wpC szI geI cs ds window).getD (n * n - 1) 0 = last ∧ wayQ szI geI cs ds window = (flatW P, true) ∧ WayI n n window A B P (n - 1) (n - 1) z := by
  have hn := h.n
  obtain ⟨f1, f2⟩ := h.fin
  have hok : wpOk cs ds window = true := by unfold wpOk; rw [f1, f2, decide_eq_true hw, decide_eq_true hw2]; rfl
  have hfc := h.finC window
  obtain ⟨z, z1, z2, z3⟩ := wc_diag h hw (n - 1) (by omega) (by omega)
  have e1 : (n - 1) * ds.length + (n - 1) = n * n - 1 := by
    obtain ⟨m, rfl⟩ : ∃ m, n = m + 1 := ⟨n - 1, by omega⟩
    rw [hd, Nat.add_sub_cancel, Nat.add_mul, Nat.mul_add]; omega
  rw [e1] at z1
  have hlss : fc .lss .f32 ((wpC szI geI cs ds window).getD (n * n - 1) 0) 0 = false := by rw [z1.lss ev_zero, decide_eq_false (by omega)]
  have hyes : wpYes szI geI cs ds window = true := by
    unfold wpYes
    rw [hok, hfc, hc, hd, hlss]; rfl
  obtain ⟨P, hP1, hP2⟩ := way_back h window (n + n) (n - 1) (n - 1) (by omega) (by omega) (by omega) z (by rw [e1]; exact z1) z2
  refine ⟨_, z, P, z1, z2, ?_, ?_, ?_, ?_, rfl, ?_, ?_⟩
  · rw [show n - 1 + 1 = n by omega] at z3; exact z3
  · rw [wfarQ, hyes, if_pos rfl, hc, hd]
  · rw [costsQ, hok, if_pos rfl, given, hfc]; rfl
  · rw [wpC_length, hc, hd]
  · rw [wayQ, hyes, if_pos rfl, hc, ← hP1, hd]
    rw [show ((n : Int) - 1) = ((n - 1 : Nat) : Int) by omega]
  · rw [hc, hd] at hP2
    exact hP2.info (by omega) (by omega) hw
theorem sumD_self (A : Nat → Int) : ∀ n, sumD A A n = 0
  | 0 => rfl
  | n + 1 => by rw [sumD, sumD_self A n, dI]; omega
theorem get_flat {P : List (Nat × Nat)} {j : Nat} (hj : j < P.length) : (flatW P)[2 * j]? = some ((P.getD j (0, 0)).1 : Int) ∧ (flatW P)[2 * j + 1]? = some ((P.getD j (0, 0)).2 : Int) := by
  obtain ⟨h1, h2⟩ := flatW_get P j hj
  have hl := flatW_length P
  have e : ∀ t, t < (flatW P).length → (flatW P)[t]? = some ((flatW P).getD t 0) := by
    intro t ht
    rw [List.getD_eq_getElem?_getD, List.getElem?_eq_getElem ht]; rfl
  exact ⟨by rw [e _ (by omega), h1], by rw [e _ (by omega), h2]⟩

end Go.Proofs.Ytkkomajokdlkeaa
