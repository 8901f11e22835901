/- Contracts: centers of groups: what is computed, in plain Lean; a slice of numbers copied. -/
import Derived.Lib.SliceRun
import Derived.Test.YtkkomajokdlkeaaQ21
import Derived.Test.YtkkomajokdlkeaaQ29
namespace Go.Proofs.Ytkkomajokdlkeaa
set_option linter.unusedSimpArgs false
set_option linter.unusedVariables false
set_option maxRecDepth 100000
set_option maxHeartbeats 4000000
set_option linter.unusedSimpArgs false
set_option linter.unusedVariables false
open Go.RowKit
attribute [local go_sem] run_store_float run_store_complex alloc_drewN setCell_drewN

/-- The first k of one list, and what the other list has behind them. -/
def mixL {α : Type} (m l : List α) (k : Nat) : List α := m.take k ++ l.drop k
theorem mixL_zero {α : Type} (m l : List α) : mixL m l 0 = l := by simp [mixL]
theorem mixL_length {α : Type} {m l : List α} (h : m.length = l.length) (k : Nat) : (mixL m l k).length = l.length := by simp [mixL]; omega
theorem mixL_all {α : Type} {m l : List α} (h : m.length = l.length) {k : Nat} (hk : l.length ≤ k) : mixL m l k = m := by
  rw [mixL, List.take_of_length_le (by omega), List.drop_eq_nil_of_le hk, List.append_nil]
theorem mixL_get {α : Type} {m l : List α} (h : m.length = l.length) {k : Nat} (hk : k < l.length) (d : α) : (mixL m l k).getD k d = l.getD k d := by
  have hl : (m.take k).length = k := by rw [List.length_take]; omega
  rw [mixL, List.getD_eq_getElem?_getD, List.getElem?_append_right (by omega), hl, Nat.sub_self, List.getElem?_drop, Nat.add_zero, ← List.getD_eq_getElem?_getD]
theorem mixL_set {α : Type} {m l : List α} (h : m.length = l.length) {k : Nat} (hk : k < l.length) {x : α} (hx : m[k]? = some x) : (mixL m l k).set k x = mixL m l (k + 1) := by
  have hl : (m.take k).length = k := by rw [List.length_take]; omega
  rw [mixL, mixL, List.set_append_right _ _ (by omega), hl, Nat.sub_self, List.take_add_one, hx, List.append_assoc]
  congr 1
  rw [List.drop_eq_getElem_cons hk]
  rfl

/-- Numbers added place by place. -/
def addL (s x : List Nat) : List Nat := (List.range s.length).map fun i => addF (s.getD i 0) (x.getD i 0)
theorem addL_length (s x : List Nat) : (addL s x).length = s.length := by simp [addL]
theorem addL_get {s x : List Nat} {k : Nat} (hk : k < s.length) : (addL s x)[k]? = some (addF (s.getD k 0) (x.getD k 0)) := by simp [addL, hk]
def divL (s : List Nat) (d : Nat) : List Nat := (List.range s.length).map fun i => divF (s.getD i 0) d
theorem divL_length (s : List Nat) (d : Nat) : (divL s d).length = s.length := by simp [divL]
theorem divL_get {s : List Nat} {d k : Nat} (hk : k < s.length) : (divL s d)[k]? = some (divF (s.getD k 0) d) := by simp [divL, hk]
/-- The sum of the first n series of the group c, and how many they are. -/
def sumTo (css : List (List Nat)) (gs : List Int) (c : Int) (L : Nat) : Nat → List Nat
  | 0 => List.replicate L 0
  | n + 1 => if gs.getD n 0 = c then addL (sumTo css gs c L n) (rowL css n) else sumTo css gs c L n
def cntTo (gs : List Int) (c : Int) : Nat → Nat
  | 0 => 0
  | n + 1 => if gs.getD n 0 = c then cntTo gs c n + 1 else cntTo gs c n
theorem sumTo_length (css : List (List Nat)) (gs : List Int) (c : Int) (L n : Nat) : (sumTo css gs c L n).length = L := by
  induction n with
  | zero => simp [sumTo]
  | succ n ih => rw [sumTo]; split; · rw [addL_length, ih]
                 · exact ih
theorem sumTo_in {css : List (List Nat)} {gs : List Int} {c : Int} {L n : Nat} (h : gs.getD n 0 = c) : sumTo css gs c L (n + 1) = addL (sumTo css gs c L n) (rowL css n) := by rw [sumTo, if_pos h]
theorem sumTo_out {css : List (List Nat)} {gs : List Int} {c : Int} {L n : Nat} (h : ¬ gs.getD n 0 = c) : sumTo css gs c L (n + 1) = sumTo css gs c L n := by rw [sumTo, if_neg h]
theorem cntTo_in {gs : List Int} {c : Int} {n : Nat} (h : gs.getD n 0 = c) : cntTo gs c (n + 1) = cntTo gs c n + 1 := by rw [cntTo, if_pos h]
theorem cntTo_out {gs : List Int} {c : Int} {n : Nat} (h : ¬ gs.getD n 0 = c) : cntTo gs c (n + 1) = cntTo gs c n := by rw [cntTo, if_neg h]
theorem cntTo_le (gs : List Int) (c : Int) (n : Nat) : cntTo gs c n ≤ n := by
  induction n with
  | zero => exact Nat.le_refl _
  | succ n ih => rw [cntTo]; split <;> omega
/-- The new center of the group c. -/
def cenN (css : List (List Nat)) (gs : List Int) (L : Nat) (old : List Nat) (c : Nat) : List Nat :=
  if cntTo gs c css.length = 0 then old else divL (sumTo css gs c L css.length) (fI (cntTo gs c css.length : Nat))
def newC (css cts : List (List Nat)) (gs : List Int) (L : Nat) : List (List Nat) := (List.range cts.length).map fun c => cenN css gs L (rowL cts c) c
theorem newC_length (css cts : List (List Nat)) (gs : List Int) (L : Nat) : (newC css cts gs L).length = cts.length := by simp [newC]
theorem newC_get {css cts : List (List Nat)} {gs : List Int} {L c : Nat} (hc : c < cts.length) : (newC css cts gs L)[c]? = some (cenN css gs L (rowL cts c) c) := by simp [newC, hc]
theorem newC_row {css cts : List (List Nat)} {gs : List Int} {L c : Nat} (hc : c < cts.length) : rowL (newC css cts gs L) c = cenN css gs L (rowL cts c) c := by simp [newC, rowL, hc]
/-- The groups, and whether all have one. -/
def grp (css cts : List (List Nat)) : List Int := (List.range css.length).map fun i => (nearL cts (rowL css i)).1
def gOk (css cts : List (List Nat)) : Bool := (List.range css.length).all fun i => (nearL cts (rowL css i)).2.2
theorem grp_length (css cts : List (List Nat)) : (grp css cts).length = css.length := by simp [grp]
theorem grp_get {css cts : List (List Nat)} {k : Nat} (hk : k < css.length) : (grp css cts)[k]? = some (nearL cts (rowL css k)).1 := by simp [grp, hk]
theorem grp_take {css cts : List (List Nat)} {k : Nat} (hk : k < css.length) : (grp css cts).take (k + 1) = (grp css cts).take k ++ [(nearL cts (rowL css k)).1] := by
  rw [List.take_add_one, grp_get hk]; rfl
theorem gOk_no {css cts : List (List Nat)} {k : Nat} (hk : k < css.length) (h : (nearL cts (rowL css k)).2.2 = false) : gOk css cts = false := by
  cases e : gOk css cts
  · rfl
  · simp only [gOk, List.all_eq_true] at e
    rw [e k (List.mem_range.2 hk)] at h; cases h
theorem gOk_yes {css cts : List (List Nat)} (h : ∀ k, k < css.length → (nearL cts (rowL css k)).2.2 = true) : gOk css cts = true := by
  simp only [gOk, List.all_eq_true]
  exact fun k hk => h k (List.mem_range.1 hk)
def noC : List (List Nat) × List Int × Bool := ([], [], false)
/-- So many rounds from these centers on. -/
def cenQ (css : List (List Nat)) (L : Nat) : Nat → List (List Nat) → List (List Nat) × List Int × Bool
  | 0, cts => if gOk css cts then (cts, grp css cts, true) else noC
  | r + 1, cts => if gOk css cts then (if (newC css cts (grp css cts) L).all allFin then cenQ css L r (newC css cts (grp css cts) L) else noC) else noC
def ceQ (css : List (List Nat)) (count rounds : Int) : List (List Nat) × List Int × Bool :=
  if listOk css && (inB count 1 css.length && inB rounds 0 32) then cenQ css (headL css).length rounds.toNat (css.take count.toNat) else noC
/-- Centers: so many, each of that length. -/
def Shp (L C : Nat) (cts : List (List Nat)) : Prop := cts.length = C ∧ ∀ c, c < C → (rowL cts c).length = L
theorem Shp.new {css cts : List (List Nat)} {gs : List Int} {L C : Nat} (h : Shp L C cts) : Shp L C (newC css cts gs L) := by
  refine ⟨by rw [newC_length]; exact h.1, fun c hc => ?_⟩
  rw [newC_row (by rw [h.1]; exact hc), cenN]
  split
  · exact h.2 c hc
  · rw [divL_length, sumTo_length]
theorem rowL_take {css : List (List Nat)} {C c : Nat} (hc : c < C) (hC : C ≤ css.length) : rowL (css.take C) c = rowL css c := by
  rw [rowL_eq (by rw [List.length_take]; omega), rowL_eq (by omega), List.getElem_take]
theorem listOk_row {css : List (List Nat)} (h : listOk css = true) {k : Nat} (hk : k < css.length) : series (rowL css k) = true ∧ (rowL css k).length = (headL css).length := by
  have := two_iff.1 (listOk_two h hk)
  exact ⟨this.1, this.2.2⟩
theorem head_row {css : List (List Nat)} : headL css = rowL css 0 := rfl
theorem Shp.take {css : List (List Nat)} (h : listOk css = true) {C : Nat} (hC : C ≤ css.length) : Shp (headL css).length C (css.take C) :=
  ⟨by rw [List.length_take]; omega, fun c hc => by rw [rowL_take hc hC]; exact (listOk_row h (by omega)).2⟩
theorem series_iff {cs : List Nat} : series cs = true ↔ (1 ≤ cs.length ∧ cs.length ≤ 96) ∧ allFin cs = true := by
  simp only [series, Bool.and_eq_true, decide_eq_true_eq]
theorem all_rows {p : List Nat → Bool} {cts : List (List Nat)} : cts.all p = true ↔ ∀ c, c < cts.length → p (rowL cts c) = true := by
  rw [List.all_eq_true]
  constructor
  · exact fun h c hc => by rw [rowL_eq hc]; exact h _ (List.getElem_mem hc)
  · intro h x hx
    obtain ⟨i, hi, rfl⟩ := List.getElem_of_mem hx
    rw [← rowL_eq hi]; exact h i hi
/-- Centers of that shape are a list of series if their numbers are finite. -/
theorem Shp.ok {L C : Nat} {cts : List (List Nat)} (h : Shp L C cts) (h1 : 1 ≤ L ∧ L ≤ 96) (h2 : 1 ≤ C ∧ C ≤ 16) : listOk cts = cts.all allFin := by
  rw [Bool.eq_iff_iff, all_rows]
  constructor
  · exact fun he c hc => (series_iff.1 (listOk_row he hc).1).2
  · intro he
    refine listOk_of (by simp only [lensOk, h.1, Bool.and_eq_true, decide_eq_true_eq]; exact h2) fun c hc => ?_
    have hL := h.2 c (by rw [← h.1]; exact hc)
    refine ⟨series_iff.2 ⟨by omega, he c hc⟩, ?_⟩
    rw [hL, head_row, h.2 0 (by omega)]
theorem Shp.two {L C : Nat} {cts : List (List Nat)} (h : Shp L C cts) (h2 : 1 ≤ C) {x : List Nat} (hx : series x = true) (hl : x.length = L) (ho : listOk cts = true) : twoOk x (headL cts) = true :=
  two_iff.2 ⟨hx, (listOk_row ho (k := 0) (by rw [h.1]; exact h2)).1, by rw [hl, head_row, h.2 0 (by omega)]⟩
theorem Shp.near {L C : Nat} {cts : List (List Nat)} (h : Shp L C cts) (h2 : 1 ≤ C) {x : List Nat} (hx : series x = true) (hl : x.length = L) : nsQ cts x = if listOk cts then nearL cts x else (0, 0, false) := by
  cases ho : listOk cts
  · rw [nsQ_no (by rw [ho]; rfl)]; rfl
  · rw [nsQ_yes (by rw [ho, h.two h2 hx hl ho]; rfl)]; rfl
/-- What is left to do, as the program asks it: a center that is not finite is found by the next search. -/
def cenP (css : List (List Nat)) (L r : Nat) (cts : List (List Nat)) : List (List Nat) × List Int × Bool := if listOk cts then cenQ css L r cts else noC
theorem cenP_bad {css : List (List Nat)} {L r : Nat} {cts : List (List Nat)} (h : listOk cts = false) : cenP css L r cts = noC := by rw [cenP, h]; rfl
theorem cenP_no {css : List (List Nat)} {L r : Nat} {cts : List (List Nat)} (h : gOk css cts = false) : cenP css L r cts = noC := by
  rw [cenP]
  split
  · cases r <;> (rw [cenQ, h]; rfl)
  · rfl
theorem cenP_end {css : List (List Nat)} {L : Nat} {cts : List (List Nat)} (ho : listOk cts = true) (h : gOk css cts = true) : cenP css L 0 cts = (cts, grp css cts, true) := by
  rw [cenP, ho, cenQ, h]; rfl
theorem cenP_next {css : List (List Nat)} {L C r : Nat} {cts : List (List Nat)} (hs : Shp L C cts) (h1 : 1 ≤ L ∧ L ≤ 96) (h2 : 1 ≤ C ∧ C ≤ 16) (ho : listOk cts = true) (h : gOk css cts = true) : cenP css L (r + 1) cts = cenP css L r (newC css cts (grp css cts) L) := by
  rw [cenP, ho, cenQ, h, cenP, (hs.new (css := css) (gs := grp css cts)).ok h1 h2]
  rfl
theorem ceQ_no {css : List (List Nat)} {count rounds : Int} (h : (listOk css && (inB count 1 css.length && inB rounds 0 32)) = false) : ceQ css count rounds = noC := by rw [ceQ, h]; rfl
theorem take_ok {css : List (List Nat)} (h : listOk css = true) {C : Nat} (h1 : 1 ≤ C) (hC : C ≤ css.length) : listOk (css.take C) = true := by
  have hl := listOk_len h
  have h0 := (series_iff.1 (listOk_row h (k := 0) (by omega)).1).1
  rw [(Shp.take h hC).ok (by rw [head_row]; exact h0) ⟨h1, by omega⟩, all_rows]
  intro c hc
  rw [List.length_take] at hc
  rw [rowL_take (by omega) hC]
  exact (series_iff.1 (listOk_row h (by omega)).1).2
theorem ceQ_yes {css : List (List Nat)} {C R : Nat} (h : listOk css = true) (h1 : 1 ≤ C) (hC : C ≤ css.length) (hR : R ≤ 32) : ceQ css (C : Int) (R : Int) = cenP css (headL css).length R (css.take C) := by
  have e1 : inB (C : Int) 1 css.length = true := (inB_iff _ _ _).2 ⟨by omega, by omega⟩
  have e2 : inB (R : Int) 0 32 = true := (inB_iff _ _ _).2 ⟨by omega, by omega⟩
  rw [ceQ, h, e1, e2, cenP, take_ok h h1 hC]
  rfl
theorem near_yes {cts : List (List Nat)} {x : List Nat} (h : (nsQ cts x).2.2 = true) : listOk cts = true ∧ nsQ cts x = nearL cts x := by
  unfold nsQ at h ⊢
  split
  · rename_i h1
    rw [if_pos h1] at h
    simp only [Bool.and_eq_true] at h1
    exact ⟨h1.1, rfl⟩
  · rename_i h1; rw [if_neg h1] at h; cases h
theorem Shp.near_no {css cts : List (List Nat)} {L C r k : Nat} (h : Shp L C cts) (h2 : 1 ≤ C) (hk : k < css.length) (hx : series (rowL css k) = true) (hl : (rowL css k).length = L) (hn : (nsQ cts (rowL css k)).2.2 = false) : cenP css L r cts = noC := by
  rw [h.near h2 hx hl] at hn
  cases ho : listOk cts
  · exact cenP_bad ho
  · rw [ho, if_pos rfl] at hn
    exact cenP_no (gOk_no hk hn)
theorem nears_ok {css cts : List (List Nat)} (h : ∀ k, k < css.length → (nsQ cts (rowL css k)).2.2 = true) (h1 : 1 ≤ css.length) : listOk cts = true ∧ gOk css cts = true :=
  ⟨(near_yes (h 0 h1)).1, gOk_yes fun k hk => by rw [← (near_yes (h k hk)).2]; exact h k hk⟩
theorem mixL_same {α : Type} {m l : List α} {k : Nat} (h : m.length = l.length) (hk : k < l.length) (he : m[k]? = l[k]?) : mixL m l (k + 1) = mixL m l k := by
  have hx : m[k]? = some (m[k]'(by omega)) := List.getElem?_eq_getElem (by omega)
  rw [← mixL_set h hk hx]
  have h2 : (mixL m l k)[k]? = some (m[k]'(by omega)) := by
    have hl : (m.take k).length = k := by rw [List.length_take]; omega
    rw [mixL, List.getElem?_append_right (by omega), hl, Nat.sub_self, List.getElem?_drop, Nat.add_zero, ← he]
    exact hx
  obtain ⟨h3, h4⟩ := List.getElem?_eq_some_iff.1 h2
  rw [← h4, List.set_getElem_self]
theorem newC_same {css cts : List (List Nat)} {gs : List Int} {L c : Nat} (hc : c < cts.length) (h : cntTo gs c css.length = 0) : mixL (newC css cts gs L) cts (c + 1) = mixL (newC css cts gs L) cts c := by
  refine mixL_same (newC_length ..) hc ?_
  rw [newC_get hc, cenN, if_pos h, rowL_eq hc, List.getElem?_eq_getElem hc]
theorem newC_set {css cts : List (List Nat)} {gs : List Int} {L c : Nat} (hc : c < cts.length) (h : ¬ cntTo gs c css.length = 0) :
    (mixL (newC css cts gs L) cts c).set c (divL (sumTo css gs c L css.length) (fI (cntTo gs c css.length : Nat))) = mixL (newC css cts gs L) cts (c + 1) :=
  mixL_set (newC_length ..) hc (by rw [newC_get hc, cenN, if_neg h])
theorem grp_set {css cts : List (List Nat)} {gs : List Int} (h : gs.length = css.length) {k : Nat} (hk : k < css.length) (hn : (nsQ cts (rowL css k)).2.2 = true) : (mixL (grp css cts) gs k).set k (nsQ cts (rowL css k)).1 = mixL (grp css cts) gs (k + 1) :=
  mixL_set (by rw [grp_length, h]) (by omega) (by rw [grp_get hk, (near_yes hn).2])
theorem listOk_any {cts : List (List Nat)} (h : listOk cts = true) : (cts.any fun cs => !series cs) = false := by
  rw [List.any_eq_false]
  intro x hx
  obtain ⟨i, hi, rfl⟩ := List.getElem_of_mem hx
  rw [← rowL_eq hi, (listOk_row h hi).1]; simp

/-- A row of a slice of slices of the call's own is replaced. -/
theorem SO.at_ {T1 T2 lo : Nat} {w : World} {v : Value} {css : List (List Nat)} (hne : T1 ≠ T2) (h : SO T1 T2 lo w v css) {k : Nat} (hk : k < css.length) :
    ∃ g cap, v = .slice (some ⟨g, 0, none⟩) css.length cap ∧ lo ≤ g ∧ g < w.heap.size ∧ (∃ u, w.cell? ⟨g, k, none⟩ = some u) ∧ w.frozen? ⟨g, k, none⟩ = false ∧
      ∀ u cs, OW T2 lo w u cs → SO T1 T2 lo (w.setCell ⟨g, k, none⟩ u) v (css.set k cs) ∧ w.grownBy (w.setCell ⟨g, k, none⟩ u) (some g) := by
  obtain ⟨vs, hgo, hlen, hrows⟩ := h
  obtain ⟨g, cap, hv, h1, h2, h3, h4, h5⟩ := hgo.at_ (k := k) (by omega)
  refine ⟨g, cap, by rw [hv, hlen], h1, h2, ⟨_, h3⟩, h4, fun u cs hu => ?_⟩
  obtain ⟨h6, h7⟩ := h5 u
  have hb : v.ownBlock = some g := by rw [hv]; rfl
  refine ⟨⟨vs.set k u, h6, by simp [hlen], fun i hi1 hi2 => ?_⟩, h7⟩
  rw [← hb] at h7
  by_cases hik : i = k
  · subst hik
    simp only [List.getElem_set_self]
    exact hu.kept h7 (hu.ne_go hgo (Ne.symm hne))
  · rw [List.getElem_set_ne (Ne.symm hik), List.getElem_set_ne (Ne.symm hik)]
    have hr := hrows i (by simpa using hi1) (by simpa using hi2)
    exact hr.kept h7 (hr.ne_go hgo (Ne.symm hne))
theorem GO.ne_go {α β : Type} {inj : α → Value} {inj' : β → Value} {T T' b b' : Nat} {w : World} {u v : Value} {cs : List α} {xs : List β} (h : GO inj T b w u cs) (h' : GO inj' T' b' w v xs) (hne : T ≠ T') : u.ownBlock = none ∨ u.ownBlock ≠ v.ownBlock := by
  rcases h.2 with ⟨rfl, -⟩ | ⟨g, cap, cur, rfl, -, hg, -⟩
  · exact .inl rfl
  · rcases h'.2 with ⟨rfl, -⟩ | ⟨g2, cap2, cur2, rfl, -, hg2, -⟩
    · exact .inr (by simp [Value.ownBlock])
    · refine .inr fun e => ?_
      have e2 : g = g2 := by simpa [Value.ownBlock] using e
      subst e2
      rw [hg] at hg2
      simp only [Option.some.injEq, Obj.cells.injEq] at hg2
      exact hne hg2.2.1
/-- A store into a slice of other elements leaves it. -/
theorem SO.kept_go {β : Type} {inj' : β → Value} {T1 T2 T' b' lo : Nat} {w w' : World} {v v' : Value} {css : List (List Nat)} {xs : List β} (h : SO T1 T2 lo w v css) (h' : GO inj' T' b' w v' xs) (n1 : T1 ≠ T') (n2 : T2 ≠ T') (hg : w.grownBy w' v'.ownBlock) : SO T1 T2 lo w' v css := by
  obtain ⟨vs, hgo, hlen, hrows⟩ := h
  exact ⟨vs, hgo.kept hg (hgo.ne_go h' n1), hlen, fun i x y => (hrows i x y).kept hg ((hrows i x y).ne_go h' n2)⟩
/-- .. and the other way round. -/
theorem GO.kept_so {β : Type} {inj' : β → Value} {T1 T2 T' b' lo : Nat} {w w' : World} {v v' : Value} {css : List (List Nat)} {xs : List β} (h : SO T1 T2 lo w v css) (h' : GO inj' T' b' w v' xs) (n1 : T1 ≠ T') (hg : w.grownBy w' v.ownBlock) : GO inj' T' b' w' v' xs := by
  obtain ⟨vs, hgo, -, -⟩ := h
  exact h'.kept hg (h'.ne_go hgo (Ne.symm n1))
/-- append of all numbers of a slice. -/
theorem wpList_appAll {P : Program} {S T : Nat} (F : F32s P S T) {ops : Array Oper} {Q : Exit → Act → World → Prop} {a : Act} {w : World} {rest : List Oper} {dst : Option Tmp} {s x : Operand} {type : TypeId} {pos : String} {after : Array Edge}
    (base : Nat) (v : Value) (cs : List Nat) (hs : a.eval s = v) (hown : OW T base w v cs) (u : Value) (ds : List Nat) (hx : a.eval x = u) (hu : SB w u ds) (h1 : 1 ≤ ds.length) (hl : cs.length + ds.length < 1099511627776) (hbase : base ≤ w.heap.size)
    (h : ∀ v' w', OW T base w' v' (cs ++ ds) → w.grownBy w' v.ownBlock → wpList P ops Q rest (a.put dst v') w') :
    wpList P ops Q ({ dst := dst, op := .call { callee := .builtin .append, args := #[s, x], argTypes := #[S, S] }, type := type, pos := pos, after := after, guard := none } :: rest) a w := by
  obtain ⟨i, hi, hz, hsz, hby⟩ := F.info
  obtain ⟨xs, ho, hcs, hxs⟩ := hown
  obtain ⟨ao, c, ys, rfl, hds, hcap, hys, hcell⟩ := hu
  have hlen : xs.length = cs.length := by rw [← hcs]; simp
  have hlen2 : ys.length = ds.length := by rw [← hds]; simp
  obtain ⟨b, off, rfl, -, -⟩ := hcell 0 (by omega)
  refine wpList_append_own (P := P) w rfl s x S rfl base T i (.float .f32 0) 1 4 F.slice hi hz hsz hby rfl (by decide) v xs.length _ hs ho ⟨b, off, none⟩ ys.length c (ys.map (Value.float .f32)) hx (by simp) ?_ ?_ ?_ ?_ hbase ?_
  · intro j y hy
    rw [List.getElem?_map] at hy
    obtain ⟨z, hz', rfl⟩ := Option.map_eq_some_iff.1 hy
    obtain ⟨hj, hz2⟩ := List.getElem?_eq_some_iff.1 hz'
    obtain ⟨b', off', e1, e2, e3⟩ := hcell j hj
    simp only [Option.some.injEq, Addr.mk.injEq, and_true] at e1
    obtain ⟨rfl, rfl⟩ := e1
    rw [Addr.add_lit, e3, hz2]
  · intro y hy
    obtain ⟨z, _, rfl⟩ := List.mem_map.1 hy
    rfl
  · have : maxLen = 9223372036854775807 := rfl
    omega
  · omega
  · intro v' w' h2 h3 _
    refine h v' w' ⟨xs ++ ys, ?_, by simp [hcs, hds], ?_⟩ h3
    · simpa using h2
    · intro y hy
      rcases List.mem_append.1 hy with hy | hy
      · exact hxs y hy
      · exact hys y hy
/-- A slice of slices of the call's own, each row (below hi) in a block of its own. -/
def SD (T1 T2 lo hi : Nat) (w : World) (v : Value) (css : List (List Nat)) : Prop :=
  ∃ vs : List Value, GO id T1 lo w v vs ∧ vs.length = css.length ∧ (∀ i (h1 : i < vs.length) (h2 : i < css.length), OW T2 lo w vs[i] css[i]) ∧ (∀ i (h1 : i < vs.length), ∀ g, vs[i].ownBlock = some g → g < hi) ∧
    ∀ i j (h1 : i < vs.length) (h2 : j < vs.length), i ≠ j → vs[i].ownBlock = none ∨ vs[i].ownBlock ≠ vs[j].ownBlock
section
variable {T1 T2 lo hi : Nat} {w w' : World} {v : Value} {css : List (List Nat)}
theorem SD.so (h : SD T1 T2 lo hi w v css) : SO T1 T2 lo w v css := by
  obtain ⟨vs, h1, h2, h3, -⟩ := h
  exact ⟨vs, h1, h2, h3⟩
theorem SD.keep (h : SD T1 T2 lo hi w v css) (hb : Below w.heap.size w w') : SD T1 T2 lo hi w' v css := by
  obtain ⟨vs, h1, h2, h3, h4⟩ := h
  exact ⟨vs, h1.keep hb, h2, fun i a b => (h3 i a b).keep hb, h4⟩
theorem SD.drewN (h : SD T1 T2 lo hi w v css) (n : Nat) : SD T1 T2 lo hi (w.drewN n) v css := h
theorem SD.alloc (h : SD T1 T2 lo hi w v css) (o : Obj) : SD T1 T2 lo hi (w.alloc o) v css := h.keep ((Below.refl _ _).alloc (Nat.le_refl _) _)
theorem SD.empty (w : World) {n : Nat} (hn : n = w.heap.size) (hb : lo ≤ w.heap.size) : SD T1 T2 lo hi (w.alloc (.cells #[] T1)) (.slice (some ⟨n, 0, none⟩) 0 0) [] := ⟨[], GO.empty _ _ hn hb, rfl, (fun i h1 _ => by simp at h1), (fun i h1 => by simp at h1), (fun i j h1 => by simp at h1)⟩
theorem SD.nil (T1 T2 lo hi : Nat) (w : World) : SD T1 T2 lo hi w (.slice none 0 0) [] := ⟨[], GO.nil .., rfl, (fun i h1 _ => by simp at h1), (fun i h1 => by simp at h1), (fun i j h1 => by simp at h1)⟩
theorem SD.now (h : SD T1 T2 lo hi w v css) : SD T1 T2 lo w.heap.size w v css := by
  obtain ⟨vs, h1, h2, h3, -, h5⟩ := h
  exact ⟨vs, h1, h2, h3, fun i a g hg => ((h3 i a (by omega)).block g hg).2, h5⟩
theorem SD.own_ge (h : SD T1 T2 lo hi w v css) : ∀ k, v.ownBlock = some k → lo ≤ k := h.so.own_ge
theorem SD.kept_go {β : Type} {inj' : β → Value} {T' b' : Nat} {v' : Value} {xs : List β} (h : SD T1 T2 lo hi w v css) (h' : GO inj' T' b' w v' xs) (n1 : T1 ≠ T') (n2 : T2 ≠ T') (hg : w.grownBy w' v'.ownBlock) : SD T1 T2 lo hi w' v css := by
  obtain ⟨vs, hgo, hlen, hrows, r⟩ := h
  exact ⟨vs, hgo.kept hg (hgo.ne_go h' n1), hlen, fun i x y => (hrows i x y).kept hg ((hrows i x y).ne_go h' n2), r⟩
/-- A row is written. -/
theorem SD.row_at (hne : T1 ≠ T2) (h : SD T1 T2 lo hi w v css) {c k : Nat} (hc : c < css.length) (hk : k < (rowL css c).length) :
    ∃ g cap gr capr, v = .slice (some ⟨g, 0, none⟩) css.length cap ∧ g < w.heap.size ∧ w.cell? ⟨g, c, none⟩ = some (.slice (some ⟨gr, 0, none⟩) (rowL css c).length capr) ∧ lo ≤ gr ∧ gr < hi ∧ gr < w.heap.size ∧ (∃ u, w.cell? ⟨gr, k, none⟩ = some u) ∧ w.frozen? ⟨gr, k, none⟩ = false ∧
      ∀ r, r < 4294967296 → SD T1 T2 lo hi (w.setCell ⟨gr, k, none⟩ (.float .f32 r)) v (css.set c ((rowL css c).set k (cn .f32 r))) ∧ w.grownBy (w.setCell ⟨gr, k, none⟩ (.float .f32 r)) (some gr) := by
  obtain ⟨vs, hgo, hlen, hrows, hhi, hds⟩ := h
  have hcv : c < vs.length := by omega
  obtain ⟨g, cap, hv, h1, h2, h3, -, -⟩ := hgo.at_ (k := c) hcv
  have hr := hrows c hcv hc
  have er : css[c] = rowL css c := (rowL_eq hc).symm
  rw [er] at hr
  obtain ⟨gr, capr, hvr, h4, h5, h6, h7, h8⟩ := hr.at_ hk
  have hb : vs[c].ownBlock = some gr := by rw [hvr]; rfl
  refine ⟨g, cap, gr, capr, by rw [hv, hlen], h2, by rw [h3, hvr]; rfl, h4, hhi c hcv gr hb, h5, h6, h7, fun r hr32 => ?_⟩
  obtain ⟨h9, h10⟩ := h8 r hr32
  refine ⟨⟨vs, ?_, by simp [hlen], fun i hi1 hi2 => ?_, hhi, hds⟩, h10⟩
  · refine hgo.kept h10 ?_
    rcases hr.ne_go hgo (Ne.symm hne) with h11 | h11
    · rw [hb] at h11; cases h11
    · rw [hb] at h11; exact .inr (Ne.symm h11)
  · by_cases hic : i = c
    · subst hic
      simp only [List.getElem_set_self]
      exact h9
    · rw [List.getElem_set_ne (Ne.symm hic)]
      refine (hrows i hi1 (by simpa using hi2)).kept h10 ?_
      have := hds i c hi1 hcv hic
      rw [hb] at this
      exact this
end
theorem SD.row_set {T1 T2 lo hi : Nat} {w : World} {v : Value} {X : List (List Nat)} {Y : List Nat} {c k : Nat} (hne : T1 ≠ T2) (h : SD T1 T2 lo hi w v (X.set c Y)) (hc : c < X.length) (hk : k < Y.length) :
    ∃ g cap gr capr, v = .slice (some ⟨g, 0, none⟩) X.length cap ∧ g < w.heap.size ∧ w.cell? ⟨g, c, none⟩ = some (.slice (some ⟨gr, 0, none⟩) Y.length capr) ∧ lo ≤ gr ∧ gr < hi ∧ gr < w.heap.size ∧ (∃ u, w.cell? ⟨gr, k, none⟩ = some u) ∧ w.frozen? ⟨gr, k, none⟩ = false ∧
      ∀ r, r < 4294967296 → SD T1 T2 lo hi (w.setCell ⟨gr, k, none⟩ (.float .f32 r)) v (X.set c (Y.set k (cn .f32 r))) ∧ w.grownBy (w.setCell ⟨gr, k, none⟩ (.float .f32 r)) (some gr) := by
  have e : rowL (X.set c Y) c = Y := by simp [rowL, hc]
  obtain ⟨g, cap, gr, capr, h1, h2, h3, h4, h5, h6, h7, h8, h9⟩ := h.row_at hne (c := c) (k := k) (by rw [List.length_set]; exact hc) (by rw [e]; exact hk)
  rw [List.length_set] at h1
  rw [e] at h3
  refine ⟨g, cap, gr, capr, h1, h2, h3, h4, h5, h6, h7, h8, fun r hr => ?_⟩
  have h10 := h9 r hr
  rw [e, List.set_set] at h10
  exact h10
theorem GO.kept_f {T T' b b' : Nat} {w w' : World} {v : Value} {xs : List Int} {u : Value} {cs : List Nat} (h : GO (Value.int .i64) T b w v xs) (hu : OW T' b' w u cs) (hne : T' ≠ T) (hg : w.grownBy w' u.ownBlock) : GO (Value.int .i64) T b w' v xs :=
  h.kept hg (GO.ne_ow hu h hne)
theorem SD.go_kept {T1 T2 T' lo hi b' gr len capr c g : Nat} {w w' : World} {v v' : Value} {cts : List (List Nat)} {xs : List Int} (h : SD T1 T2 lo hi w v cts) (hv : ∃ n cap, v = .slice (some ⟨g, 0, none⟩) n cap) (hc : c < cts.length) (hcell : w.cell? ⟨g, c, none⟩ = some (.slice (some ⟨gr, 0, none⟩) len capr)) (hne : T2 ≠ T') (hg : w.grownBy w' (some gr)) (h' : GO (Value.int .i64) T' b' w v' xs) : GO (Value.int .i64) T' b' w' v' xs := by
  obtain ⟨vs, hgo, hlen, hrows, -⟩ := h
  have hcv : c < vs.length := by omega
  obtain ⟨g2, cap2, hv2, -, -, h3, -, -⟩ := hgo.at_ (k := c) hcv
  obtain ⟨n, cap, hv1⟩ := hv
  rw [hv1] at hv2
  simp only [Value.slice.injEq, Option.some.injEq, Addr.mk.injEq, and_true] at hv2
  obtain ⟨rfl, -, -⟩ := hv2
  rw [hcell] at h3
  have h4 : vs[c] = .slice (some ⟨gr, 0, none⟩) len capr := (Option.some.inj h3).symm
  exact h'.kept_f (hrows c hcv hc) hne (by rw [h4]; exact hg)
theorem cenN_zero {css : List (List Nat)} {gs : List Int} {L c : Nat} {old : List Nat} (h : cntTo gs (c : Int) css.length = 0) : cenN css gs L old c = old := by rw [cenN, if_pos h]
theorem cenN_more {css : List (List Nat)} {gs : List Int} {L c : Nat} {old : List Nat} (h : ¬ cntTo gs (c : Int) css.length = 0) : cenN css gs L old c = divL (sumTo css gs (c : Int) L css.length) (fI (cntTo gs (c : Int) css.length : Nat)) := by rw [cenN, if_neg h]
theorem mixL_row {m l : List (List Nat)} {c : Nat} (h : m.length = l.length) (hc : c < l.length) : rowL (mixL m l c) c = rowL l c := mixL_get h hc []
theorem set_row {X : List (List Nat)} {c : Nat} (hc : c < X.length) : X.set c (rowL X c) = X := by rw [rowL_eq hc, List.set_getElem_self]
/-- One more row, in a block from hi on, is appended. -/
theorem wpList_sdapp {P : Program} {S T1 T2 : Nat} {z : Value} {by_ : Nat} (F : OneC P S T1 z by_) (hne : T1 ≠ T2) {ops : Array Oper} {Q : Exit → Act → World → Prop} {a : Act} {w : World} {rest : List Oper} {dst : Option Tmp} {s x : Operand} {type : TypeId} {pos : String} {after : Array Edge}
    (lo hi : Nat) (v : Value) (css : List (List Nat)) (hs : a.eval s = v) (hown : SD T1 T2 lo hi w v css) (hlh : lo ≤ hi) (u : Value) (cs : List Nat) (hu : OW T2 hi w u cs) (b : Nat) (hx : a.eval x = .slice (some ⟨b, 0, none⟩) 1 1) (hc : w.cell? ⟨b, 0, none⟩ = some u)
    (hl : css.length < 1099511627776) (hbase : lo ≤ w.heap.size)
    (h : ∀ v' w', SD T1 T2 lo w'.heap.size w' v' (css ++ [cs]) → w.grownBy w' v.ownBlock → wpList P ops Q rest (a.put dst v') w') :
    wpList P ops Q ({ dst := dst, op := .call { callee := .builtin .append, args := #[s, x], argTypes := #[S, S] }, type := type, pos := pos, after := after, guard := none } :: rest) a w := by
  obtain ⟨i, hi', hz, hsz, hby⟩ := F.info
  have h16 := F.small
  obtain ⟨vs, hgo, hlen, hrows, hhi, hds⟩ := hown
  refine wpList_append_own (P := P) w rfl s x S rfl lo T1 i z 1 by_ F.slice hi' hz hsz hby (by rw [F.one]; rfl) (by decide) v vs.length _ hs hgo ⟨b, 0, none⟩ 1 1 [u] hx (by simp) ?_ ?_ ?_ ?_ hbase ?_
  · intro j y hy
    cases j with
    | zero => simp only [List.getElem?_cons_zero, Option.some.injEq] at hy; subst hy; simpa [Addr.add] using hc
    | succ j => simp at hy
  · intro y hy
    simp only [List.mem_singleton] at hy
    subst hy
    exact hu.one
  · have : maxLen = 9223372036854775807 := rfl
    omega
  · have : (vs.length + 1) * by_ ≤ 1099511627776 * 32 := Nat.mul_le_mul (by omega) h16
    omega
  · intro v' w' h1 h2 _
    have hrw : ∀ j (h3 : j < (vs ++ [u]).length) (h4 : j < (css ++ [cs]).length), OW T2 lo w' (vs ++ [u])[j] (css ++ [cs])[j] := by
      intro j h3 h4
      rcases Nat.lt_or_ge j vs.length with hj | hj
      · rw [List.getElem_append_left hj, List.getElem_append_left (by omega)]
        have hr := hrows j hj (by omega)
        exact hr.kept h2 (hr.ne_go hgo (Ne.symm hne))
      · have hjl : j = vs.length := by simp at h3; omega
        subst hjl
        rw [List.getElem_append_right (Nat.le_refl _), List.getElem_append_right (by omega)]
        simp only [Nat.sub_self, hlen, List.getElem_cons_zero]
        exact (hu.down hlh).kept h2 (hu.ne_go hgo (Ne.symm hne))
    refine h v' w' ⟨vs ++ [u], ?_, by simp [hlen], hrw, fun j h3 g hg => ((hrw j h3 (by simp at h3 ⊢; omega)).block g hg).2, fun j k h3 h4 hjk => ?_⟩ h2
    · unfold GO
      rw [List.length_append, List.map_append]
      exact h1
    · have hge : ∀ g, u.ownBlock = some g → hi ≤ g := fun g hg => (hu.block g hg).1
      have hsep : ∀ n (hn : n < vs.length), (vs[n].ownBlock = none ∨ vs[n].ownBlock ≠ u.ownBlock) ∧ (u.ownBlock = none ∨ u.ownBlock ≠ vs[n].ownBlock) := by
        intro n hn
        cases e1 : vs[n].ownBlock with
        | none => exact ⟨.inl rfl, by cases u.ownBlock <;> simp⟩
        | some g =>
          have hgl := hhi n hn g e1
          cases e2 : u.ownBlock with
          | none => exact ⟨.inr (by simp), .inl rfl⟩
          | some g2 =>
            have := hge g2 e2
            exact ⟨.inr (by simp only [ne_eq, Option.some.injEq]; omega), .inr (by simp only [ne_eq, Option.some.injEq]; omega)⟩
      simp only [List.length_append, List.length_singleton] at h3 h4
      rcases Nat.lt_or_ge j vs.length with hj | hj
      · rcases Nat.lt_or_ge k vs.length with hk | hk
        · rw [List.getElem_append_left hj, List.getElem_append_left hk]
          exact hds j k hj hk hjk
        · obtain rfl : k = vs.length := by omega
          rw [List.getElem_append_left hj, List.getElem_append_right (Nat.le_refl _)]
          simp only [Nat.sub_self, List.getElem_cons_zero]
          exact (hsep j hj).1
      · obtain rfl : j = vs.length := by omega
        have hk : k < vs.length := by omega
        rw [List.getElem_append_left hk, List.getElem_append_right (Nat.le_refl _)]
        simp only [Nat.sub_self, List.getElem_cons_zero]
        exact (hsep k hk).2
/-- A row of a slice of slices of the call's own, rows in blocks of their own, is replaced by one from hi on. -/
theorem SD.at_ {T1 T2 lo hi : Nat} {w : World} {v : Value} {css : List (List Nat)} (hne : T1 ≠ T2) (hlh : lo ≤ hi) (h : SD T1 T2 lo hi w v css) {k : Nat} (hk : k < css.length) :
    ∃ g cap, v = .slice (some ⟨g, 0, none⟩) css.length cap ∧ lo ≤ g ∧ g < w.heap.size ∧ (∃ u, w.cell? ⟨g, k, none⟩ = some u) ∧ w.frozen? ⟨g, k, none⟩ = false ∧
      ∀ u cs, OW T2 hi w u cs → SD T1 T2 lo (w.setCell ⟨g, k, none⟩ u).heap.size (w.setCell ⟨g, k, none⟩ u) v (css.set k cs) ∧ w.grownBy (w.setCell ⟨g, k, none⟩ u) (some g) := by
  obtain ⟨vs, hgo, hlen, hrows, hhi, hds⟩ := h
  obtain ⟨g, cap, hv, h1, h2, h3, h4, h5⟩ := hgo.at_ (k := k) (by omega)
  refine ⟨g, cap, by rw [hv, hlen], h1, h2, ⟨_, h3⟩, h4, fun u cs hu => ?_⟩
  obtain ⟨h6, h7⟩ := h5 u
  have hb : v.ownBlock = some g := by rw [hv]; rfl
  have hrw : ∀ i (hi1 : i < (vs.set k u).length) (hi2 : i < (css.set k cs).length), OW T2 lo (w.setCell ⟨g, k, none⟩ u) (vs.set k u)[i] (css.set k cs)[i] := by
    intro i hi1 hi2
    rw [← hb] at h7
    by_cases hik : i = k
    · subst hik
      simp only [List.getElem_set_self]
      exact (hu.down hlh).kept h7 (hu.ne_go hgo (Ne.symm hne))
    · rw [List.getElem_set_ne (Ne.symm hik), List.getElem_set_ne (Ne.symm hik)]
      have hr := hrows i (by simpa using hi1) (by simpa using hi2)
      exact hr.kept h7 (hr.ne_go hgo (Ne.symm hne))
  refine ⟨⟨vs.set k u, h6, by simp [hlen], hrw, fun i hi1 b hb2 => ((hrw i hi1 (by rw [List.length_set] at hi1 ⊢; omega)).block b hb2).2, fun i j hi1 hj1 hij => ?_⟩, h7⟩
  have hge : ∀ b, u.ownBlock = some b → hi ≤ b := fun b hb2 => (hu.block b hb2).1
  have hsep : ∀ n (hn : n < vs.length), (vs[n].ownBlock = none ∨ vs[n].ownBlock ≠ u.ownBlock) ∧ (u.ownBlock = none ∨ u.ownBlock ≠ vs[n].ownBlock) := by
    intro n hn
    cases e1 : vs[n].ownBlock with
    | none => exact ⟨.inl rfl, by cases u.ownBlock <;> simp⟩
    | some b1 =>
      have hgl := hhi n hn b1 e1
      cases e2 : u.ownBlock with
      | none => exact ⟨.inr (by simp), .inl rfl⟩
      | some b2 =>
        have := hge b2 e2
        exact ⟨.inr (by simp only [ne_eq, Option.some.injEq]; omega), .inr (by simp only [ne_eq, Option.some.injEq]; omega)⟩
  have hi3 : i < vs.length := by simpa using hi1
  have hj3 : j < vs.length := by simpa using hj1
  by_cases hik : i = k
  · subst hik
    rw [List.getElem_set_self, List.getElem_set_ne (by omega)]
    exact (hsep j hj3).2
  · rw [List.getElem_set_ne (Ne.symm hik)]
    by_cases hjk : j = k
    · subst hjk
      rw [List.getElem_set_self]
      exact (hsep i hi3).1
    · rw [List.getElem_set_ne (Ne.symm hjk)]
      exact hds i j hi3 hj3 hij
/-- Centers, groups and a bool are returned. -/
def CE (T1 T2 T3 base : Nat) (w : World) (e : Ending) (q : List (List Nat) × List Int × Bool) : Prop := ∃ u v b, e = .returned (.tuple #[u, v, .bool b]) ∧ SD T1 T2 base w.heap.size w u q.1 ∧ GO (Value.int .i64) T3 base w v q.2.1 ∧ b = q.2.2
theorem CE.no (T1 T2 T3 base : Nat) (w : World) {q : List (List Nat) × List Int × Bool} (hq : q = noC) : CE T1 T2 T3 base w (.returned (.tuple #[.slice none 0 0, .slice none 0 0, .bool false])) q := by
  subst hq; exact ⟨_, _, _, rfl, SD.nil .., GO.nil .., rfl⟩

theorem f_Clone (v : Value) (cs : List Nat) (w : World) (hv : SB w v cs) (h1 : 1 ≤ cs.length) (h2 : cs.length < 1099511627776) :
    Calls Try.prog 57 #[v] w fun e w' => (∃ u, e = .returned u ∧ OW 33 w.heap.size w' u cs) ∧ Below w.heap.size w w' := by
  obtain ⟨ao, c, rfl, hc1, hc2, hget⟩ := hv.get rfl
  obtain ⟨b, off, x, rfl, -, -, -⟩ := hget 0 (by omega)
  have HV := Lib.hid hv
  have heq : ∀ w', (binOp .eql 26 (.slice (some ⟨b, off, none⟩) cs.length c) (.slice none 0 0)).run Try.prog w' = .ok (.bool false) w' := fun w' => Lib.run_eql_slice_nil w' _ 33 _ _ _ _ _ Try.underlying26
  clear hget hv
  go_enter Try.func57, Try.ntmps57
  go_wp2_with (at_builtin; refine wpList_appAll f32s w.heap.size (.slice (some ⟨w.heap.size, 0, none⟩) 0 0) [] rfl (OW.empty _ _ rfl (Nat.le_refl _)) _ cs rfl (HV.out.keep ((Below.refl _ w).alloc (Nat.le_refl _) _)) h1 (by simpa using h2) (by simp) ?_; intro v' w' ho' hg'; have HO' := Lib.hid ho'; clear ho')
  go_ret
  refine ⟨⟨_, rfl, by have h3 := HO'.out; rw [List.nil_append] at h3; exact h3⟩, ?_⟩
  exact Below.grown ((Below.refl _ w).alloc (Nat.le_refl _) _) hg' (by simp) (by simp [Value.ownBlock])

theorem i_CentersOf1 (v : Value) (cs : List Nat) (w : World) (hv : SB w v cs) :
    Calls Try.prog 59 #[v] w fun e w' => e = .returned (.bool (!series cs)) ∧ Dr w w' := by
  have HV := Lib.hid hv
  clear hv
  go_enter Try.func59, Try.ntmps59
  go_wp2_with (go_at_call 60; refine (i_IsSeries _ cs _ HV.out.sl).mono ?_; rintro e w1 ⟨rfl, n1, rfl⟩)
  go_ret
  exact ⟨rfl, _, rfl⟩
def AsksS0 (F : Nat) (w : World) (g : List Nat → Bool) : Prop :=
  ∀ v cs w', Below w.heap.size w w' → SB w' v cs → Calls Try.prog F #[v] w' fun e w'' => e = .returned (.bool (g cs)) ∧ Dr w' w''
theorem AsksS0.at {F : Nat} {w : World} {g : List Nat → Bool} (h : AsksS0 F w g) (v : Value) (cs : List Nat) (w' : World) (hb : Below w.heap.size w w') (hs : SB w' v cs) :
    Calls Try.prog F #[v] w' fun e w'' => e = .returned (.bool (g cs)) ∧ Dr w' w'' := h v cs w' hb hs
theorem f_IndexFuncS0 (F : Nat) (g : List Nat → Bool) (hE : Enters1 F) (v : Value) (css : List (List Nat)) (w : World) (hv : SS w v css) (hF : AsksS0 F w g) :
    Calls Try.prog 119 #[v, .func (.func F) #[] #[]] w fun e w' => e = .returned (.int .i64 (indexS g css)) ∧ Dr w w' := by
  obtain ⟨ao, c, rfl, hc1, hc2, hget⟩ := hv.get rfl
  have HF := Lib.hid hF
  have HC := Lib.hid hget
  clear hF hget hv
  unfold Enters1 at hE
  go_enter Try.func119, Try.ntmps119
  go_wp2_with fail
  go_loopw [8] (fun i wr => ∃ k : Nat, k ≤ css.length ∧ i = .int .i64 k ∧ Hid (∀ i, i < k → g (css.getD i []) = false) ∧ ∃ d, wr = w.drewN d) (fun i _ => css.length - (intOf i).toNat)
  case atStart => exact ⟨0, Nat.zero_le _, rfl, (by intro i hi; omega), 0, rfl⟩
  case round =>
    obtain ⟨k, hk, rfl, H1, d, rfl⟩ := hrel
    by_cases hlt : k < css.length
    · obtain ⟨b, off, u, rfl, hb, hc, hs⟩ := HC.out k hlt
      obtain ⟨xk, hxk⟩ : ∃ xk, xk = css.getD k [] := ⟨_, rfl⟩
      rw [← hxk] at hs
      have HS := Lib.hid hs
      have HX := Lib.hid hxk
      clear hxk hs
      cases hp : g xk
      all_goals
        have HP := Lib.hid hp
        clear hp
        go_wp2_with ((with_reducible refine (AsksS0.at HF.out _ xk _ (below_drewN (Below.refl _ _) _) (SB.drewN HS.out _)).mono ?_); rintro e w1 ⟨rfl, n, rfl⟩; rw [HP.out])
      · refine ⟨⟨k + 1, by omega, by go_num, ?_, _, rfl⟩, by simp [intOf]; omega⟩
        intro i hi
        rcases Nat.lt_or_ge i k with h | h
        · exact H1.out i h
        · obtain rfl : i = k := by omega
          rw [← HX.out]; exact HP.out
      · go_ret
        refine ⟨ret_int ?_, _, rfl⟩
        rw [indexS_found hlt H1.out (by rw [← HX.out]; exact HP.out)]
    · go_wp2_with fail
      go_ret
      obtain rfl : k = css.length := by omega
      refine ⟨ret_int ?_, _, rfl⟩
      rw [indexS_none H1.out]
theorem i_ContainsC (v : Value) (css : List (List Nat)) (w : World) (hv : SS w v css) :
    Calls Try.prog 58 #[v, .func (.func 59) #[] #[]] w fun e w' => e = .returned (.bool (css.any fun cs => !series cs)) ∧ Dr w w' := by
  have HV := Lib.hid hv
  clear hv
  go_enter Try.func58, Try.ntmps58
  go_wp2_with (go_at_call 119; refine (f_IndexFuncS0 _ (fun cs => !series cs) (fun _ _ => by kernel_rfl) _ css _ HV.out (fun v cs w' _ hs => i_CentersOf1 v cs w' hs)).mono ?_; rintro e w1 ⟨rfl, n, rfl⟩)
  go_ret
  refine ⟨?_, _, rfl⟩
  rw [← indexS_geq]; rfl

theorem oneRowsS : OneC Try.prog 25 26 (.slice none 0 0) 24 := oneC_of Try.underlying25 (by kernel_rfl) rfl (by decide)
theorem oneI64G : OneC Try.prog 28 2 (.int .i64 0) 8 := oneC_of Try.underlying28 (by kernel_rfl) rfl (by decide)

end Go.Proofs.Ytkkomajokdlkeaa
