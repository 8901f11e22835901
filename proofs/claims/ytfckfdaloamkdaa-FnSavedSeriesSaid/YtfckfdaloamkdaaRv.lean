/- A list of what is saved that a call makes itself: three cells an element, the numbers of each in a block of their own. -/
import Derived.Test.YtfckfdaloamkdaaSv
import Derived.Test.YtfckfdaloamkdaaTrk
import Derived.Test.YtfckfdaloamkdaaK15
namespace Go.Proofs.Ytfckfdaloamkdaa
set_option linter.unusedSimpArgs false
set_option linter.unusedVariables false
set_option maxRecDepth 100000
set_option maxHeartbeats 4000000
open Go.RowKit

/-- The cells. -/
def rvc : List (Sd × Value) → List Value
  | [] => []
  | p :: r => .string p.1.1 :: .int .i64 p.1.2.1 :: p.2 :: rvc r
theorem rvc_length : ∀ P, (rvc P).length = P.length * 3
  | [] => rfl
  | p :: r => by rw [rvc, List.length_cons, List.length_cons, List.length_cons, rvc_length r, List.length_cons]; omega
theorem rvc_append : ∀ P P', rvc (P ++ P') = rvc P ++ rvc P'
  | [], _ => rfl
  | p :: r, P' => by rw [List.cons_append, rvc, rvc_append r P', rvc]; rfl
theorem rvc_at (P : List (Sd × Value)) (p : Sd × Value) (R : List (Sd × Value)) : (rvc (P ++ p :: R))[P.length * 3]? = some (.string p.1.1) ∧ (rvc (P ++ p :: R))[P.length * 3 + 1]? = some (.int .i64 p.1.2.1) ∧ (rvc (P ++ p :: R))[P.length * 3 + 2]? = some p.2 := by
  have hl := rvc_length P
  rw [rvc_append]
  refine ⟨?_, ?_, ?_⟩
  · rw [List.getElem?_append_right (by omega), hl, Nat.sub_self]; rfl
  · rw [List.getElem?_append_right (by omega), hl, show P.length * 3 + 1 - P.length * 3 = 1 by omega]; rfl
  · rw [List.getElem?_append_right (by omega), hl, show P.length * 3 + 2 - P.length * 3 = 2 by omega]; rfl
theorem rvc_name (P : List (Sd × Value)) (p : Sd × Value) (R : List (Sd × Value)) (s : ByteArray) : (rvc (P ++ p :: R)).set (P.length * 3) (.string s) = rvc (P ++ ((s, p.1.2), p.2) :: R) := by
  have hl := rvc_length P
  rw [rvc_append, rvc_append, List.set_append_right _ _ (by omega), hl, Nat.sub_self]
  rfl
theorem rvc_day (P : List (Sd × Value)) (p : Sd × Value) (R : List (Sd × Value)) (d : Int) : (rvc (P ++ p :: R)).set (P.length * 3 + 1) (.int .i64 d) = rvc (P ++ ((p.1.1, d, p.1.2.2), p.2) :: R) := by
  have hl := rvc_length P
  rw [rvc_append, rvc_append, List.set_append_right _ _ (by omega), hl, show P.length * 3 + 1 - P.length * 3 = 1 by omega]
  rfl
theorem rvc_nums (P : List (Sd × Value)) (p : Sd × Value) (R : List (Sd × Value)) (cs : List Nat) : rvc (P ++ p :: R) = rvc (P ++ ((p.1.1, p.1.2.1, cs), p.2) :: R) := by
  rw [rvc_append, rvc_append]; rfl

/-- What is known of one element. -/
def RVe (T lo hi : Nat) (w : World) (p : Sd × Value) : Prop := OW T lo w p.2 p.1.2.2 ∧ (∀ g, p.2.ownBlock = some g → g < hi) ∧ p.1.1.size ≤ 9223372036854775807
def apart (a b : Value) : Prop := a.ownBlock = none ∨ a.ownBlock ≠ b.ownBlock
theorem apart.symm {a b : Value} (h : apart a b) : apart b a := by
  rcases h with h | h
  · unfold apart
    rw [h]
    cases b.ownBlock <;> simp
  · exact .inr (Ne.symm h)
def RV (T1 T2 lo hi : Nat) (w : World) (v : Value) (L : List Sd) : Prop :=
  ∃ P : List (Sd × Value), P.map Prod.fst = L ∧ w.ownsRow lo T1 3 v P.length (rvc P) ∧ (∀ p ∈ P, RVe T2 lo hi w p) ∧ (P.map Prod.snd).Pairwise apart ∧ ∀ g, v.ownBlock = some g → g < hi
theorem own_apart {w : World} {T1 T2 lo1 lo2 s1 s2 n1 n2 : Nat} {v1 v2 : Value} {xs1 xs2 : List Value} (h1 : w.ownsRow lo1 T1 s1 v1 n1 xs1) (h2 : w.ownsRow lo2 T2 s2 v2 n2 xs2) (hne : T1 ≠ T2) : apart v1 v2 := by
  rcases h1.2 with ⟨rfl, -⟩ | ⟨g, cap, cur, rfl, -, hg, -⟩
  · exact .inl rfl
  · refine .inr ?_
    rcases h2.2 with ⟨rfl, -⟩ | ⟨g', cap', cur', rfl, -, hg', -⟩
    · simp [Value.ownBlock]
    · intro e
      have e : g = g' := by simpa [Value.ownBlock] using e
      subst e
      rw [hg] at hg'
      injection hg' with hg'
      injection hg' with _ e2
      exact hne e2
theorem RVe.kept {T lo hi : Nat} {w w' : World} {p : Sd × Value} {row : Option Nat} (h : RVe T lo hi w p) (hg : w.grownBy w' row) (hne : p.2.ownBlock = none ∨ p.2.ownBlock ≠ row) : RVe T lo hi w' p := ⟨h.1.kept hg hne, h.2⟩
theorem RVe.keep {T lo hi : Nat} {w w' : World} {p : Sd × Value} (h : RVe T lo hi w p) (hb : Below w.heap.size w w') : RVe T lo hi w' p := ⟨h.1.keep hb, h.2⟩
theorem RVe.mono {T lo hi hi' : Nat} {w : World} {p : Sd × Value} (h : RVe T lo hi w p) (hh : hi ≤ hi') : RVe T lo hi' w p := ⟨h.1, fun g e => Nat.lt_of_lt_of_le (h.2.1 g e) hh, h.2.2⟩
section
variable {T1 T2 lo hi : Nat} {w w' : World} {v : Value} {L : List Sd}
theorem RV.keep (h : RV T1 T2 lo hi w v L) (hb : Below w.heap.size w w') : RV T1 T2 lo hi w' v L := by
  obtain ⟨P, h1, h2, h3, h4, h5⟩ := h
  exact ⟨P, h1, h2.kept (grown_of_below hb none) (by cases v.ownBlock <;> simp), fun p hp => (h3 p hp).keep hb, h4, h5⟩
theorem RV.drewN (h : RV T1 T2 lo hi w v L) (n : Nat) : RV T1 T2 lo hi (w.drewN n) v L := h
theorem RV.drew (h : RV T1 T2 lo hi w v L) : RV T1 T2 lo hi w.drew v L := h
theorem RV.alloc (h : RV T1 T2 lo hi w v L) (o : Obj) : RV T1 T2 lo hi (w.alloc o) v L := h.keep ((Below.refl _ _).alloc (Nat.le_refl _) _)
theorem RV.mono {hi' : Nat} (h : RV T1 T2 lo hi w v L) (hh : hi ≤ hi') : RV T1 T2 lo hi' w v L := by
  obtain ⟨P, h1, h2, h3, h4, h5⟩ := h
  exact ⟨P, h1, h2, fun p hp => (h3 p hp).mono hh, h4, fun g e => Nat.lt_of_lt_of_le (h5 g e) hh⟩
theorem RV.slice (h : RV T1 T2 lo hi w v L) : ∃ ao c, v = .slice ao L.length c ∧ L.length ≤ c ∧ c ≤ 9223372036854775807 := by
  obtain ⟨P, h1, h2, -⟩ := h
  have hl : P.length = L.length := by rw [← h1, List.length_map]
  rcases h2.2 with ⟨rfl, h0⟩ | ⟨g, cap, cur, rfl, hb, hg, hn, hm, -⟩
  · have : L.length = 0 := by omega
    exact ⟨none, 0, by rw [this], by omega, by omega⟩
  · have : maxLen = 9223372036854775807 := rfl
    exact ⟨_, cap, by rw [hl], by omega, by omega⟩
theorem RV.empty {n : Nat} (hn : n = w.heap.size) (hb : lo ≤ w.heap.size) (hh : w.heap.size < hi) : RV T1 T2 lo hi (w.alloc (.cells #[] T1)) (.slice (some ⟨n, 0, none⟩) 0 0) [] := by
  subst hn
  have := World.ownsRow_lit (e := T1) (size := 3) w #[] 0 hb (by simp [maxLen]) rfl
  exact ⟨[], rfl, by simpa [rvc] using this, by simp, List.Pairwise.nil, by intro g e; simp [Value.ownBlock] at e; omega⟩
theorem RV.svl (h : RV T1 T2 lo hi w v L) : SVL w v L := by
  obtain ⟨ao, c, hv, hc1, hc2⟩ := h.slice
  obtain ⟨P, h1, h2, h3, -⟩ := h
  subst hv
  have hl : P.length = L.length := by rw [← h1, List.length_map]
  refine ⟨ao, c, rfl, ⟨hc1, hc2⟩, fun i hi => ?_⟩
  rcases h2.2 with ⟨he, h0⟩ | ⟨g, cap, cur, he, hb, hg, -⟩
  · omega
  · have he2 : ao = some ⟨g, 0, none⟩ := by injection he
    subst he2
    have hip : i < P.length := by omega
    have hP : P = P.take i ++ P[i] :: P.drop (i + 1) := by rw [← List.drop_eq_getElem_cons hip, List.take_append_drop]
    have hti : (P.take i).length = i := by rw [List.length_take]; omega
    have hat := rvc_at (P.take i) P[i] (P.drop (i + 1))
    rw [← hP, hti] at hat
    have hx : L.getD i d0 = P[i].1 := by
      rw [← h1, List.getD_eq_getElem?_getD, List.getElem?_map, List.getElem?_eq_getElem hip]; rfl
    have hgl : g < w.heap.size := by
      rcases Nat.lt_or_ge g w.heap.size with h' | h'
      · exact h'
      · rw [Array.getElem?_eq_none h'] at hg; cases hg
    have he3 := h3 P[i] (List.getElem_mem hip)
    rw [hl] at h2
    refine ⟨g, 0, P[i].2, rfl, hgl, ?_, ?_, ?_, by rw [hx]; exact he3.1.sb, by rw [hx]; exact he3.2.2⟩
    · rw [Nat.zero_add, World.ownsRow.cellAt h2 _ (by omega), hat.1, hx]
    · rw [Nat.zero_add, World.ownsRow.cellAt h2 _ (by omega), hat.2.1, hx]
    · rw [Nat.zero_add, World.ownsRow.cellAt h2 _ (by omega), hat.2.2]
/-- One more behind: the row with the new cells is given (append's law). -/
theorem RV.pushed {P : List (Sd × Value)} {p : Sd × Value} (h1 : P.map Prod.fst = L) (h3 : ∀ q ∈ P, RVe T2 lo hi w q) (h4 : (P.map Prod.snd).Pairwise apart) (hp : RVe T2 lo hi w p) (ha : ∀ q ∈ P, apart q.2 p.2)
    (h2 : w.ownsRow lo T1 3 v (P.length + 1) (rvc P ++ [.string p.1.1, .int .i64 p.1.2.1, p.2])) (h5 : ∀ g, v.ownBlock = some g → g < hi) : RV T1 T2 lo hi w v (L ++ [p.1]) := by
  refine ⟨P ++ [p], by rw [List.map_append, h1]; rfl, by rw [List.length_append, rvc_append]; exact h2, fun q hq => ?_, ?_, h5⟩
  · rcases List.mem_append.1 hq with hq | hq
    · exact h3 q hq
    · rw [List.mem_singleton.1 hq]; exact hp
  · rw [List.map_append, List.pairwise_append]
    refine ⟨h4, List.pairwise_singleton _ _, fun a ha' b hb => ?_⟩
    obtain ⟨q, hq, rfl⟩ := List.mem_map.1 ha'
    have : b = p.2 := by simpa using hb
    rw [this]
    exact ha q hq
/-- One element is turned. -/
theorem RV.turn (hne : T1 ≠ T2) {A R : List Sd} {x : Sd} (h : RV T1 T2 lo hi w v (A ++ x :: R)) : ∃ g cap u, v = .slice (some ⟨g, 0, none⟩) (A ++ x :: R).length cap ∧ lo ≤ g ∧ g < hi ∧ g < w.heap.size ∧ (∀ j, w.frozen? ⟨g, j, none⟩ = false) ∧
    w.cell? ⟨g, A.length * 3, none⟩ = some (.string x.1) ∧ w.cell? ⟨g, A.length * 3 + 1, none⟩ = some (.int .i64 x.2.1) ∧ w.cell? ⟨g, A.length * 3 + 2, none⟩ = some u ∧ OW T2 lo w u x.2.2 ∧ (∀ b, u.ownBlock = some b → lo ≤ b ∧ b < hi) ∧
    (∀ s, s.size ≤ 9223372036854775807 → RV T1 T2 lo hi (w.setCell ⟨g, A.length * 3, none⟩ (.string s)) v (A ++ (s, x.2) :: R)) ∧
    (∀ d, RV T1 T2 lo hi (w.setCell ⟨g, A.length * 3 + 1, none⟩ (.int .i64 d)) v (A ++ (x.1, d, x.2.2) :: R)) ∧
    (∀ w' cs, OW T2 lo w' u cs → w.grownBy w' u.ownBlock → RV T1 T2 lo hi w' v (A ++ (x.1, x.2.1, cs) :: R)) := by
  obtain ⟨P, h1, h2, h3, h4, h5⟩ := h
  obtain ⟨PA, PR, rfl, hA, hR⟩ := List.map_eq_append_iff.1 h1
  obtain ⟨p, PR', rfl, hx, hR'⟩ := List.map_eq_cons_iff.1 hR
  subst hx hA hR'
  have hlA : (PA.map Prod.fst).length = PA.length := List.length_map _
  have hlen : (PA.map Prod.fst ++ p.1 :: PR'.map Prod.fst).length = (PA ++ p :: PR').length := by simp
  rw [hlA, hlen]
  rcases h2.2 with ⟨he, h0⟩ | ⟨g, cap, cur, rfl, hb, hg, -⟩
  · simp at h0
  have hat := rvc_at PA p PR'
  have hgl : g < w.heap.size := by
    rcases Nat.lt_or_ge g w.heap.size with h' | h'
    · exact h'
    · rw [Array.getElem?_eq_none h'] at hg; cases hg
  have hlt : PA.length * 3 + 2 < (PA ++ p :: PR').length * 3 := by simp; omega
  have hpe := h3 p (by simp)
  have hin : ∀ q ∈ PA ++ p :: PR', apart q.2 (.slice (some ⟨g, 0, none⟩) (PA ++ p :: PR').length cap) := fun q hq => by
    obtain ⟨xs, ho, -⟩ := (h3 q hq).1
    exact own_apart ho h2 (Ne.symm hne)
  have hst : ∀ (j : Nat) (a : Value), ∀ q ∈ PA ++ p :: PR', RVe T2 lo hi (w.setCell ⟨g, j, none⟩ a) q := fun j a q hq => (h3 q hq).kept (grown_setCell w ⟨g, j, none⟩ a) (by have := hin q hq; simpa [apart, Value.ownBlock] using this)
  rw [List.map_append, List.map_cons] at h4
  refine ⟨g, cap, p.2, rfl, hb, h5 g rfl, hgl, fun j => World.ownsRow.frozenAt h2 j, by rw [World.ownsRow.cellAt h2 _ (by omega), hat.1], by rw [World.ownsRow.cellAt h2 _ (by omega), hat.2.1], by rw [World.ownsRow.cellAt h2 _ (by omega), hat.2.2], hpe.1,
    fun b hb' => ⟨(hpe.1.block b hb').1, hpe.2.1 b hb'⟩, fun s hs => ?_, fun d => ?_, fun w' cs ho hgr => ?_⟩
  · refine ⟨PA ++ ((s, p.1.2), p.2) :: PR', by simp, ?_, fun q hq => ?_, by rw [List.map_append, List.map_cons]; exact h4, h5⟩
    · have h := World.ownsRow.stored h2 (PA.length * 3) (.string s)
      rw [rvc_name] at h
      simpa using h.1
    · rcases List.mem_append.1 hq with hq | hq
      · exact hst _ _ q (by simp [hq])
      · rcases List.mem_cons.1 hq with rfl | hq
        · have := hst (PA.length * 3) (.string s) p (by simp)
          exact ⟨this.1, this.2.1, hs⟩
        · exact hst _ _ q (by simp [hq])
  · refine ⟨PA ++ ((p.1.1, d, p.1.2.2), p.2) :: PR', by simp, ?_, fun q hq => ?_, by rw [List.map_append, List.map_cons]; exact h4, h5⟩
    · have h := World.ownsRow.stored h2 (PA.length * 3 + 1) (.int .i64 d)
      rw [rvc_day] at h
      simpa using h.1
    · rcases List.mem_append.1 hq with hq | hq
      · exact hst _ _ q (by simp [hq])
      · rcases List.mem_cons.1 hq with rfl | hq
        · exact hst (PA.length * 3 + 1) (.int .i64 d) p (by simp)
        · exact hst _ _ q (by simp [hq])
  · have h4' := List.pairwise_append.1 h4
    have h4c := List.pairwise_cons.1 h4'.2.1
    refine ⟨PA ++ ((p.1.1, p.1.2.1, cs), p.2) :: PR', by simp, ?_, fun q hq => ?_, by rw [List.map_append, List.map_cons]; exact h4, h5⟩
    · have h := h2.kept hgr (by
        have h := (hin p (by simp)).symm
        exact h)
      rw [rvc_nums PA p PR' cs] at h
      simpa using h
    · rcases List.mem_append.1 hq with hq | hq
      · exact (h3 q (by simp [hq])).kept hgr (h4'.2.2 q.2 (List.mem_map.2 ⟨q, hq, rfl⟩) p.2 (by simp))
      · rcases List.mem_cons.1 hq with rfl | hq
        · exact ⟨ho, hpe.2⟩
        · exact (h3 q (by simp [hq])).kept hgr ((h4c.1 q.2 (List.mem_map.2 ⟨q, hq, rfl⟩)).symm)
end

end Go.Proofs.Ytfckfdaloamkdaa
