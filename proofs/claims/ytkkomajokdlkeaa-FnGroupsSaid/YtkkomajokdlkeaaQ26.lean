/- Parts of a series, each with its nearest other part. -/
import Derived.Test.YtkkomajokdlkeaaQ8
import Derived.Test.YtkkomajokdlkeaaQ21
import Derived.Test.YtkkomajokdlkeaaQ25
namespace Go.Proofs.Ytkkomajokdlkeaa
set_option linter.unusedSimpArgs false
set_option linter.unusedVariables false
set_option maxRecDepth 100000
set_option maxHeartbeats 4000000
set_option linter.unusedSimpArgs false
set_option linter.unusedVariables false
open Go.RowKit
attribute [local go_sem] run_store_float run_store_complex alloc_drewN setCell_drewN

theorem SB.sub {w : World} {ao : Option Addr} {n c : Nat} {cs : List Nat} (h : SB w (.slice ao n c) cs) {lo hi : Nat} (h1 : lo ≤ hi) (h2 : hi ≤ n) :
    SB w (.slice (if c = lo then ao else ao.map (·.add lo)) (hi - lo) (c - lo)) ((cs.drop lo).take (hi - lo)) := by
  obtain ⟨bo, d, xs, hv, rfl, hlen, hlt, hcell⟩ := h
  simp only [Value.slice.injEq] at hv
  obtain ⟨rfl, rfl, rfl⟩ := hv
  refine ⟨(if c = lo then ao else ao.map (·.add lo)), c - lo, (xs.drop lo).take (hi - lo), ?_, by simp [List.map_drop, List.map_take], ?_, fun x hx => hlt x (List.mem_of_mem_drop (List.mem_of_mem_take hx)), fun i hi' => ?_⟩
  · congr 1
    simp; omega
  · simp; omega
  · have hi2 : i < hi - lo := by simp at hi'; omega
    obtain ⟨b, off, e1, e2, e3⟩ := hcell (lo + i) (by omega)
    refine ⟨b, off + lo, ?_, e2, ?_⟩
    · rw [if_neg (by omega), e1]
      simp [Addr.add_lit]
    · rw [show off + lo + i = off + (lo + i) by omega, e3]; simp
/-- The part of so many numbers from a place on. -/
def cutL (cs : List Nat) (L i : Nat) : List Nat := (cs.drop i).take L
theorem cutL_length {cs : List Nat} {L i : Nat} (h : i + L ≤ cs.length) : (cutL cs L i).length = L := by simp [cutL]; omega
theorem SB.part {w : World} {ao : Option Addr} {n c : Nat} {cs : List Nat} (h : SB w (.slice ao n c) cs) {L k : Nat} (h0 : 0 < L) (hk : k + L ≤ n) (hc : n ≤ c) : SB w (.slice (Option.map (fun x => x.add k) ao) L (c - k)) (cutL cs L k) := by
  have h1 := h.sub (lo := k) (hi := k + L) (by omega) hk
  rw [if_neg (by omega), Nat.add_sub_cancel_left] at h1
  exact h1
theorem cutL_series {cs : List Nat} {L i : Nat} (hs : series cs = true) (h1 : 1 ≤ L) (h : i + L ≤ cs.length) : series (cutL cs L i) = true := by
  have hl := cutL_length h
  have h2 := (series_len hs).2
  simp only [series, Bool.and_eq_true, decide_eq_true_eq] at hs ⊢
  refine ⟨⟨by omega, by omega⟩, ?_⟩
  have h3 := hs.2
  simp only [allFin, List.all_eq_true] at h3 ⊢
  exact fun x hx => h3 x (List.mem_of_mem_drop (List.mem_of_mem_take hx))
theorem normQ_raw {cs : List Nat} (hs : series cs = true) : normQ cs = (if (rawQ cs).2 then (rawQ cs).1 else [], (rawQ cs).2) := by
  rw [normQ, hs]
  unfold rawQ given
  cases above (normRoot cs) <;> simp
theorem rawQ_length {cs : List Nat} (h : (rawQ cs).2 = true) : (rawQ cs).1.length = cs.length := by
  unfold rawQ at h ⊢
  split
  · rw [normL_length]
  · rename_i h1; rw [if_neg h1] at h; cases h
def pfOk (cs : List Nat) (L k : Nat) : Bool := (List.range k).all fun i => (rawQ (cutL cs L i)).2
def pfL (cs : List Nat) (L k : Nat) : List (List Nat) := (List.range k).map fun i => (rawQ (cutL cs L i)).1
theorem pfL_length (cs : List Nat) (L k : Nat) : (pfL cs L k).length = k := by simp [pfL]
theorem pfL_succ (cs : List Nat) (L k : Nat) : pfL cs L (k + 1) = pfL cs L k ++ [(rawQ (cutL cs L k)).1] := by simp [pfL, List.range_succ]
theorem pfOk_succ (cs : List Nat) (L k : Nat) : pfOk cs L (k + 1) = (pfOk cs L k && (rawQ (cutL cs L k)).2) := by simp [pfOk, List.range_succ]
theorem pfOk_get {cs : List Nat} {L n i : Nat} (h : pfOk cs L n = true) (hi : i < n) : (rawQ (cutL cs L i)).2 = true := by
  simp only [pfOk, List.all_eq_true] at h
  exact h i (List.mem_range.2 hi)
theorem pfOk_no {cs : List Nat} {L n i : Nat} (hi : i < n) (h : (rawQ (cutL cs L i)).2 = false) : pfOk cs L n = false := by
  cases e : pfOk cs L n
  · rfl
  · rw [pfOk_get e hi] at h; cases h
theorem pfL_row {cs : List Nat} {L n i : Nat} (hi : i < n) : rowL (pfL cs L n) i = (rawQ (cutL cs L i)).1 := by simp [rowL, pfL, hi]
theorem pfL_rowlen {cs : List Nat} {L n i : Nat} (h : pfOk cs L n = true) (hi : i < n) (hn : n + L ≤ cs.length + 1) : (rowL (pfL cs L n) i).length = L := by
  rw [pfL_row hi, rawQ_length (pfOk_get h hi), cutL_length (by omega)]
/-- Two places are too near to each other. -/
def nearB (L i k : Nat) : Bool := decide (i - k < L) && decide (k - i < L)
/-- The nearest other part among the first k. -/
def pfNear (ps : List (List Nat)) (L i : Nat) : Nat → Int × Nat
  | 0 => (-1, 0)
  | k + 1 => if nearB L i k then pfNear ps L i k else
      if (decide ((pfNear ps L i k).1 < 0) || fc .lss .f32 (farL (rowL ps i) (rowL ps k)) (pfNear ps L i k).2) = true then ((k : Int), farL (rowL ps i) (rowL ps k)) else pfNear ps L i k
theorem pfNear_near {ps : List (List Nat)} {L i k : Nat} (h : nearB L i k = true) : pfNear ps L i (k + 1) = pfNear ps L i k := by rw [pfNear, if_pos h]
theorem pfNear_take {ps : List (List Nat)} {L i k : Nat} (h : nearB L i k = false) (h2 : (decide ((pfNear ps L i k).1 < 0) || fc .lss .f32 (farL (rowL ps i) (rowL ps k)) (pfNear ps L i k).2) = true) : pfNear ps L i (k + 1) = ((k : Int), farL (rowL ps i) (rowL ps k)) := by
  rw [pfNear, if_neg (by simp [h]), if_pos h2]
theorem pfNear_leave {ps : List (List Nat)} {L i k : Nat} (h : nearB L i k = false) (h2 : (decide ((pfNear ps L i k).1 < 0) || fc .lss .f32 (farL (rowL ps i) (rowL ps k)) (pfNear ps L i k).2) = false) : pfNear ps L i (k + 1) = pfNear ps L i k := by
  rw [pfNear, if_neg (by simp [h]), if_neg (by simp [h2])]
theorem pfNear_range (ps : List (List Nat)) (L i k : Nat) : -1 ≤ (pfNear ps L i k).1 ∧ (pfNear ps L i k).1 < 1 + k := by
  induction k with
  | zero => exact ⟨by show (-1 : Int) ≤ -1; omega, by show (-1 : Int) < _; omega⟩
  | succ k ih =>
    rw [pfNear]
    split
    · omega
    · split
      · dsimp only; omega
      · omega
def pfFars (ps : List (List Nat)) (L n k : Nat) : List Nat := (List.range k).map fun i => (pfNear ps L i n).2
def pfAts (ps : List (List Nat)) (L n k : Nat) : List Int := (List.range k).map fun i => (pfNear ps L i n).1
def pfHas (ps : List (List Nat)) (L n k : Nat) : Bool := (List.range k).all fun i => decide (0 ≤ (pfNear ps L i n).1)
theorem pfFars_length (ps : List (List Nat)) (L n k : Nat) : (pfFars ps L n k).length = k := by simp [pfFars]
theorem pfAts_length (ps : List (List Nat)) (L n k : Nat) : (pfAts ps L n k).length = k := by simp [pfAts]
theorem pfFars_succ (ps : List (List Nat)) (L n k : Nat) : pfFars ps L n (k + 1) = pfFars ps L n k ++ [(pfNear ps L k n).2] := by simp [pfFars, List.range_succ]
theorem pfAts_succ (ps : List (List Nat)) (L n k : Nat) : pfAts ps L n (k + 1) = pfAts ps L n k ++ [(pfNear ps L k n).1] := by simp [pfAts, List.range_succ]
theorem pfHas_succ {ps : List (List Nat)} {L n k : Nat} (h : pfHas ps L n k = true) (h2 : 0 ≤ (pfNear ps L k n).1) : pfHas ps L n (k + 1) = true := by simp [pfHas, List.range_succ] at h ⊢; exact ⟨h, h2⟩
theorem pfHas_no {ps : List (List Nat)} {L n k m : Nat} (hk : k < m) (h : (pfNear ps L k n).1 < 0) : pfHas ps L n m = false := by
  cases e : pfHas ps L n m
  · rfl
  · simp only [pfHas, List.all_eq_true, decide_eq_true_eq] at e
    have := e k (List.mem_range.2 hk)
    omega
/-- Behind all parts. -/
def pfEnd (ps : List (List Nat)) (L n : Nat) : List Nat × List Int × Bool :=
  if pfHas ps L n n && allFin (pfFars ps L n n) then (pfFars ps L n n, pfAts ps L n n, true) else ([], [], false)
def pfQ (cs : List Nat) (long : Int) : List Nat × List Int × Bool :=
  if series cs && inB long 2 ((cs.length / 2 : Nat) : Int) then
    (if pfOk cs long.toNat (cs.length + 1 - long.toNat) then pfEnd (pfL cs long.toNat (cs.length + 1 - long.toNat)) long.toNat (cs.length + 1 - long.toNat) else ([], [], false))
  else ([], [], false)
theorem pfQ_no {cs : List Nat} {long : Int} (h : (series cs && inB long 2 ((cs.length / 2 : Nat) : Int)) = false) : pfQ cs long = ([], [], false) := by rw [pfQ, h]; rfl
theorem pfQ_bad {cs : List Nat} {L : Nat} (h : pfOk cs L (cs.length + 1 - L) = false) : pfQ cs (L : Int) = ([], [], false) := by
  rw [pfQ, Int.toNat_natCast, h]
  split <;> rfl
theorem pfQ_yes {cs : List Nat} {L : Nat} (h : (series cs && inB (L : Int) 2 ((cs.length / 2 : Nat) : Int)) = true) (h2 : pfOk cs L (cs.length + 1 - L) = true) : pfQ cs (L : Int) = pfEnd (pfL cs L (cs.length + 1 - L)) L (cs.length + 1 - L) := by
  rw [pfQ, h, Int.toNat_natCast, h2, if_pos rfl, if_pos rfl]
theorem pfEnd_has {ps : List (List Nat)} {L n : Nat} (h : pfHas ps L n n = false) : pfEnd ps L n = ([], [], false) := by rw [pfEnd, h]; rfl
theorem pfEnd_fin {ps : List (List Nat)} {L n : Nat} (h : allFin (pfFars ps L n n) = false) : pfEnd ps L n = ([], [], false) := by rw [pfEnd, h, Bool.and_false]; rfl
theorem pfEnd_yes {ps : List (List Nat)} {L n : Nat} (h : pfHas ps L n n = true) (h2 : allFin (pfFars ps L n n) = true) : pfEnd ps L n = (pfFars ps L n n, pfAts ps L n n, true) := by rw [pfEnd, h, h2]; rfl
/-- Two slices of the call's own and a bool are returned. -/
def PE (T1 T2 base : Nat) (w : World) (e : Ending) (q : List Nat × List Int × Bool) : Prop := ∃ u v b, e = .returned (.tuple #[u, v, .bool b]) ∧ OW T1 base w u q.1 ∧ GO (Value.int .i64) T2 base w v q.2.1 ∧ b = q.2.2
theorem PE.no (T1 T2 base : Nat) (w : World) {q : List Nat × List Int × Bool} (hq : q = ([], [], false)) : PE T1 T2 base w (.returned (.tuple #[.slice none 0 0, .slice none 0 0, .bool false])) q := by
  subst hq; exact ⟨_, _, _, rfl, OW.nil .., GO.nil .., rfl⟩
/-- Slices of other elements lie in other blocks. -/
theorem OW.ne_go {α : Type} {inj : α → Value} {T T' b b' : Nat} {w : World} {u v : Value} {cs : List Nat} {xs : List α} (h : OW T b w u cs) (h' : GO inj T' b' w v xs) (hne : T ≠ T') : u.ownBlock = none ∨ u.ownBlock ≠ v.ownBlock := by
  obtain ⟨ys, ho, -, -⟩ := h
  rcases ho.2 with ⟨rfl, -⟩ | ⟨g, cap, cur, rfl, -, hg, -⟩
  · exact .inl rfl
  · rcases h'.2 with ⟨rfl, -⟩ | ⟨g2, cap2, cur2, rfl, -, hg2, -⟩
    · exact .inr (by simp [Value.ownBlock])
    · refine .inr fun e => ?_
      have e2 : g = g2 := by simpa [Value.ownBlock] using e
      subst e2
      rw [hg] at hg2
      simp only [Option.some.injEq, Obj.cells.injEq] at hg2
      exact hne hg2.2.1
theorem GO.ne_ow {α : Type} {inj : α → Value} {T T' b b' : Nat} {w : World} {u v : Value} {cs : List Nat} {xs : List α} (h : OW T b w u cs) (h' : GO inj T' b' w v xs) (hne : T ≠ T') : v.ownBlock = none ∨ v.ownBlock ≠ u.ownBlock := by
  rcases h.ne_go h' hne with h1 | h1
  · cases e : v.ownBlock with
    | none => exact .inl rfl
    | some g => exact .inr (by rw [h1]; simp)
  · exact .inr (Ne.symm h1)
section
variable {P : Program} {S T1 T2 : Nat} {z : Value} {by_ : Nat}
theorem OW.one {T b : Nat} {w : World} {u : Value} {cs : List Nat} (h : OW T b w u cs) : u.oneCell' = true := by
  obtain ⟨ys, ho, -, -⟩ := h
  rcases ho.2 with ⟨rfl, -⟩ | ⟨g, cap, cur, rfl, -⟩ <;> rfl
theorem SO.nil (lo : Nat) (w : World) : SO T1 T2 lo w (.slice none 0 0) [] := ⟨[], GO.nil .., rfl, fun i h => by cases h⟩
theorem SO.empty (w : World) {n : Nat} (hn : n = w.heap.size) {lo : Nat} (hb : lo ≤ w.heap.size) : SO T1 T2 lo (w.alloc (.cells #[] T1)) (.slice (some ⟨n, 0, none⟩) 0 0) [] := ⟨[], GO.empty _ _ hn hb, rfl, fun i h => by cases h⟩
theorem SO.keep {lo : Nat} {w w' : World} {v : Value} {css : List (List Nat)} (h : SO T1 T2 lo w v css) (hb : Below w.heap.size w w') : SO T1 T2 lo w' v css := by
  obtain ⟨vs, h1, h2, h3⟩ := h
  exact ⟨vs, h1.keep hb, h2, fun i a b => (h3 i a b).keep hb⟩
theorem SO.drewN {lo : Nat} {w : World} {v : Value} {css : List (List Nat)} (h : SO T1 T2 lo w v css) (n : Nat) : SO T1 T2 lo (w.drewN n) v css := h
theorem SO.drew {lo : Nat} {w : World} {v : Value} {css : List (List Nat)} (h : SO T1 T2 lo w v css) : SO T1 T2 lo w.drew v css := h
theorem SO.alloc {lo : Nat} {w : World} {v : Value} {css : List (List Nat)} (h : SO T1 T2 lo w v css) (o : Obj) : SO T1 T2 lo (w.alloc o) v css := h.keep ((Below.refl _ _).alloc (Nat.le_refl _) _)
theorem SO.ss {lo : Nat} {w : World} {v : Value} {css : List (List Nat)} (h : SO T1 T2 lo w v css) : SS w v css := by
  obtain ⟨vs, h1, h2, h3⟩ := h
  exact ⟨vs, h1.gl, h2, fun i x y => (h3 i x y).sb⟩
theorem SO.own_ge {lo : Nat} {w : World} {v : Value} {css : List (List Nat)} (h : SO T1 T2 lo w v css) : ∀ k, v.ownBlock = some k → lo ≤ k := by
  obtain ⟨vs, h1, -⟩ := h
  exact h1.own_ge
/-- One more slice of the call's own is appended. -/
theorem wpList_sapp (F : OneC P S T1 z by_) (hne : T1 ≠ T2) {ops : Array Oper} {Q : Exit → Act → World → Prop} {a : Act} {w : World} {rest : List Oper} {dst : Option Tmp} {s x : Operand} {type : TypeId} {pos : String} {after : Array Edge}
    (lo : Nat) (v : Value) (css : List (List Nat)) (hs : a.eval s = v) (hown : SO T1 T2 lo w v css) (u : Value) (cs : List Nat) (hu : OW T2 lo w u cs) (b : Nat) (hx : a.eval x = .slice (some ⟨b, 0, none⟩) 1 1) (hc : w.cell? ⟨b, 0, none⟩ = some u)
    (hl : css.length < 1099511627776) (hbase : lo ≤ w.heap.size)
    (h : ∀ v' w', SO T1 T2 lo w' v' (css ++ [cs]) → w.grownBy w' v.ownBlock → wpList P ops Q rest (a.put dst v') w') :
    wpList P ops Q ({ dst := dst, op := .call { callee := .builtin .append, args := #[s, x], argTypes := #[S, S] }, type := type, pos := pos, after := after, guard := none } :: rest) a w := by
  obtain ⟨i, hi, hz, hsz, hby⟩ := F.info
  have h16 := F.small
  obtain ⟨vs, hgo, hlen, hrows⟩ := hown
  refine wpList_append_own (P := P) w rfl s x S rfl lo T1 i z 1 by_ F.slice hi hz hsz hby (by rw [F.one]; rfl) (by decide) v vs.length _ hs hgo ⟨b, 0, none⟩ 1 1 [u] hx (by simp) ?_ ?_ ?_ ?_ hbase ?_
  · intro j y hy
    cases j with
    | zero => simp only [List.getElem?_cons_zero, Option.some.injEq] at hy; subst hy; simpa [Addr.add] using hc
    | succ j => simp at hy
  · intro y hy
    simp only [List.mem_singleton] at hy
    subst hy
    exact hu.one
  · have : maxLen = 9223372036854775807 := rfl
    omega
  · have : (vs.length + 1) * by_ ≤ 1099511627776 * 32 := Nat.mul_le_mul (by omega) h16
    omega
  · intro v' w' h1 h2 _
    refine h v' w' ⟨vs ++ [u], ?_, by simp [hlen], fun j h3 h4 => ?_⟩ h2
    · unfold GO
      rw [List.length_append, List.map_append]
      exact h1
    · rcases Nat.lt_or_ge j vs.length with hj | hj
      · rw [List.getElem_append_left hj, List.getElem_append_left (by omega)]
        have hr := hrows j hj (by omega)
        exact hr.kept h2 (hr.ne_go hgo (Ne.symm hne))
      · have hjl : j = vs.length := by simp at h3; omega
        subst hjl
        rw [List.getElem_append_right (Nat.le_refl _), List.getElem_append_right (by omega)]
        simp only [Nat.sub_self, hlen, List.getElem_cons_zero]
        exact hu.kept h2 (hu.ne_go hgo (Ne.symm hne))
end

end Go.Proofs.Ytkkomajokdlkeaa
