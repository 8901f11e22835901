/- Contracts: series of mean 0 and spread 1. -/
import Derived.Test.YtfckfdaloamkdaaK17
namespace Go.Proofs.Ytfckfdaloamkdaa
set_option maxRecDepth 100000
set_option maxHeartbeats 4000000
open Go.RowKit
attribute [local go_sem] run_store_float run_store_complex alloc_drewN setCell_drewN

def restL (cs : List Nat) (m : Nat) (n : Nat) : List Nat := (List.range n).map fun i => subF (cs.getD i 0) m
theorem restL_length (cs : List Nat) (m n : Nat) : (restL cs m n).length = n := by simp [restL]
theorem restL_succ (cs : List Nat) (m n : Nat) : restL cs m (n + 1) = restL cs m n ++ [subF (cs.getD n 0) m] := by simp [restL, List.range_succ]
theorem restL_get (cs : List Nat) (m : Nat) {n i : Nat} (h : i < n) : (restL cs m n).getD i 0 = subF (cs.getD i 0) m := by
  simp [restL, List.getD_eq_getElem?_getD, List.getElem?_map, List.getElem?_range h]
def normRoot (cs : List Nat) : Nat := rootF (divF (sqsL (fun i => subF (cs.getD i 0) (meanL cs)) cs.length) (fI cs.length))
def normL (cs : List Nat) (n : Nat) : List Nat := (List.range n).map fun i => divF (subF (cs.getD i 0) (meanL cs)) (normRoot cs)
theorem normL_length (cs : List Nat) (n : Nat) : (normL cs n).length = n := by simp [normL]
theorem normL_succ (cs : List Nat) (n : Nat) : normL cs (n + 1) = normL cs n ++ [divF (subF (cs.getD n 0) (meanL cs)) (normRoot cs)] := by simp [normL, List.range_succ]
/-- A series about 0, whatever is finite. -/
def rawQ (cs : List Nat) : List Nat × Bool := if above (normRoot cs) then (normL cs cs.length, allFin (normL cs cs.length)) else ([], false)
def normQ (cs : List Nat) : List Nat × Bool := if series cs && above (normRoot cs) then given (normL cs cs.length) else ([], false)
theorem normQ_short (cs : List Nat) : (normQ cs).1.length < 1000000 := by
  unfold normQ
  split
  · rename_i h
    simp only [Bool.and_eq_true] at h
    have := (series_len h.1).2
    unfold given
    dsimp only
    split
    · rw [normL_length]; omega
    · simp
  · simp
theorem dot_rest (cs : List Nat) : dotL (restL cs (meanL cs) cs.length) (restL cs (meanL cs) cs.length) cs.length = sqsL (fun i => subF (cs.getD i 0) (meanL cs)) cs.length :=
  dot_sqs cs.length (fun i hi => restL_get cs (meanL cs) hi)
theorem set_norm (cs : List Nat) {k : Nat} (hk : k < cs.length) : (normL cs k ++ (restL cs (meanL cs) cs.length).drop k).set k (divF (subF (cs.getD k 0) (meanL cs)) (normRoot cs)) = normL cs (k + 1) ++ (restL cs (meanL cs) cs.length).drop (k + 1) := by
  rw [List.set_append_right _ _ (by rw [normL_length]; exact Nat.le_refl _), normL_length, Nat.sub_self, normL_succ, List.append_assoc]
  rw [List.drop_eq_getElem_cons (by rw [restL_length]; exact hk)]
  rfl
theorem get_norm (cs : List Nat) {k : Nat} (hk : k < cs.length) : (normL cs k ++ (restL cs (meanL cs) cs.length).drop k).getD k 0 = subF (cs.getD k 0) (meanL cs) := by
  rw [List.getD_eq_getElem?_getD, List.getElem?_append_right (by rw [normL_length]; exact Nat.le_refl _), normL_length, Nat.sub_self, List.getElem?_drop, Nat.add_zero, ← List.getD_eq_getElem?_getD, restL_get cs _ hk]


theorem i_lessOne (u : Value) (cs : List Nat) (m : Nat) (w : World) (hu : SB w u cs) (hn : cs.length ≤ 96) :
    Calls Try.prog 109 #[u, .float .f32 m] w fun e w' => (∃ r, e = .returned r ∧ OW 54 w.heap.size w' r (restL cs (cn .f32 m) cs.length)) ∧ Below w.heap.size w w' := by
  obtain ⟨ao, c, rfl, hc1, hc2, hget⟩ := hu.get rfl
  have HG := Lib.hid hget
  clear hget
  go_enter Try.func109, Try.ntmps109
  go_wp2_with fail
  go_loopw [5, 11] (fun v i wr => ∃ k : Nat, k ≤ cs.length ∧ i = .int .i64 (k : Int) ∧ Hid (OW 54 w.heap.size wr v (restL cs (cn .f32 m) k)) ∧ Below w.heap.size w wr) (fun _ i _ => cs.length - (intOf i).toNat)
  case atStart => exact ⟨0, Nat.zero_le _, rfl, (by show OW _ _ _ _ _; exact OW.empty _ _ rfl (Nat.le_refl _)), by (repeat (first | exact Below.refl _ _ | assumption | refine below_drewN ?_ _ | refine Below.drew ?_ | refine Below.alloc ?_ (by first | omega | (simp; omega) | (simp; done) | (simp at *; omega)) _ | refine Below.setCell ?_ (by first | omega | (simp; omega) | (simp; done) | (simp at *; omega)) _ | refine Below.trans ?_ (Below.mono (by assumption) (by first | omega | (simp; omega) | (simp; done) | (simp at *; omega)))))⟩
  case round =>
    obtain ⟨k, hk, rfl, HO, hb⟩ := hrel
    have hz := hb.size
    by_cases hlt : k < cs.length
    · obtain ⟨b, off, x, rfl, hbl, hc, hx, hcx⟩ := HG.out k hlt
      have hc' := (hb.cell (p := ⟨b, off + k, none⟩) hbl).trans hc
      have HX := Lib.hid hcx
      have HL := Lib.hid (show (restL cs (cn .f32 m) k).length < 1099511627776 by rw [restL_length]; omega)
      clear hc hcx
      go_wp2_with (first
        | (refine wpList_ar .f32 _ _ rfl rfl rfl ?_; intro r n hr hlt1)
        | (at_builtin; refine wpList_app1 f32s w.heap.size u5 _ rfl (by first | exact OW.drewN (OW.alloc HO.out _) _ | exact OW.alloc HO.out _) _ r rfl (by simp; done) hlt1 HL.out (by simp; omega) ?_; intro v' w' ho' hg'; have HO' := Lib.hid ho'; clear ho'))
      refine ⟨⟨k + 1, by omega, by go_num, ?_, ?_⟩, by simp [intOf]; omega⟩
      · show OW _ _ _ _ _
        have h1 := HO'.out
        rw [hr, HX.out] at h1
        rw [restL_succ]
        exact h1
      · refine below_of_grown ?_ hg' (by simp; omega) HO.out.own_ge
        (repeat (first | exact Below.refl _ _ | assumption | refine below_drewN ?_ _ | refine Below.drew ?_ | refine Below.alloc ?_ (by first | omega | (simp; omega) | (simp; done) | (simp at *; omega)) _ | refine Below.setCell ?_ (by first | omega | (simp; omega) | (simp; done) | (simp at *; omega)) _ | refine Below.trans ?_ (Below.mono (by assumption) (by first | omega | (simp; omega) | (simp; done) | (simp at *; omega)))))
    · go_wp2_with fail
      go_ret
      obtain rfl : k = cs.length := by omega
      exact ⟨⟨_, rfl, HO.out⟩, hb⟩

end Go.Proofs.Ytfckfdaloamkdaa
