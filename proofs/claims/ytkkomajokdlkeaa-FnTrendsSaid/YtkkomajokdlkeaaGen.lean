/- Slices of elements of one cell: integers, bools, strings. -/
import Derived.Test.YtkkomajokdlkeaaTrk
namespace Go.Proofs.Ytkkomajokdlkeaa
set_option linter.unusedSimpArgs false
set_option linter.unusedVariables false
set_option maxRecDepth 100000
set_option maxHeartbeats 4000000
open Go.RowKit

/-- A slice of one-cell elements in memory of the call's own, from block lo on. -/
def GO {α : Type} (inj : α → Value) (T lo : Nat) (w : World) (v : Value) (xs : List α) : Prop := w.ownsRow lo T 1 v xs.length (xs.map inj)
/-- .. and below hi. -/
def GW {α : Type} (inj : α → Value) (T lo hi : Nat) (w : World) (v : Value) (xs : List α) : Prop := GO inj T lo w v xs ∧ ∀ g, v.ownBlock = some g → g < hi
/-- Such a slice is read. -/
def GL {α : Type} (inj : α → Value) (w : World) (v : Value) (xs : List α) : Prop :=
  ∃ (ao : Option Addr) (c : Nat), v = .slice ao xs.length c ∧ (xs.length ≤ c ∧ c ≤ 9223372036854775807) ∧
    ∀ i (h : i < xs.length), ∃ b off, ao = some ⟨b, off, none⟩ ∧ b < w.heap.size ∧ w.cell? ⟨b, off + i, none⟩ = some (inj xs[i])

section
variable {α : Type} {inj : α → Value} {T lo hi : Nat} {w w' : World} {v : Value} {xs : List α}
theorem GL.keep (h : GL inj w v xs) (hb : Below w.heap.size w w') : GL inj w' v xs := by
  obtain ⟨ao, c, h1, h3, h4⟩ := h
  refine ⟨ao, c, h1, h3, fun i hi => ?_⟩
  obtain ⟨b, off, e1, e2, e3⟩ := h4 i hi
  exact ⟨b, off, e1, Nat.lt_of_lt_of_le e2 hb.size, by rw [hb.cell (p := ⟨b, off + i, none⟩) e2]; exact e3⟩
theorem GL.below {B : Nat} (h : GL inj w v xs) (hb : Below B w w') (hB : w.heap.size ≤ B) : GL inj w' v xs := h.keep (hb.mono hB)
theorem GL.drewN (h : GL inj w v xs) (n : Nat) : GL inj (w.drewN n) v xs := h
theorem GL.drew (h : GL inj w v xs) : GL inj w.drew v xs := h
theorem GL.slice (h : GL inj w v xs) : ∃ ao c, v = .slice ao xs.length c ∧ xs.length ≤ c ∧ c ≤ 9223372036854775807 := by
  obtain ⟨ao, c, h1, h3, _⟩ := h
  exact ⟨ao, c, h1, h3⟩
theorem GL.nil (w : World) : GL inj w (.slice none 0 0) ([] : List α) := ⟨none, 0, rfl, by simp, fun i hi => by cases hi⟩
theorem GO.gl (h : GO inj T lo w v xs) : GL inj w v xs := by
  rcases h.2 with ⟨rfl, h0⟩ | ⟨g, cap, cur, rfl, hb, hg, hn, hm, hs, ht⟩
  · have : xs = [] := List.eq_nil_of_length_eq_zero h0
    subst this
    exact GL.nil w
  · refine ⟨some ⟨g, 0, none⟩, cap, rfl, ⟨hn, ?_⟩, fun i hi => ⟨g, 0, rfl, ?_, ?_⟩⟩
    · have : maxLen = 9223372036854775807 := rfl
      omega
    · rcases Nat.lt_or_ge g w.heap.size with h' | h'
      · exact h'
      · rw [Array.getElem?_eq_none h'] at hg; cases hg
    · rw [Nat.zero_add, World.ownsRow.cellAt h i (by omega)]
      simp [hi]
theorem GO.kept {row : Option Nat} (h : GO inj T lo w v xs) (hg : w.grownBy w' row) (hne : v.ownBlock = none ∨ v.ownBlock ≠ row) : GO inj T lo w' v xs := World.ownsRow.kept h hg hne
theorem GO.keep (h : GO inj T lo w v xs) (hb : Below w.heap.size w w') : GO inj T lo w' v xs := h.kept (grown_of_below hb none) (by cases v.ownBlock <;> simp)
theorem GO.drewN (h : GO inj T lo w v xs) (n : Nat) : GO inj T lo (w.drewN n) v xs := h
theorem GO.drew (h : GO inj T lo w v xs) : GO inj T lo w.drew v xs := h
theorem GO.alloc (h : GO inj T lo w v xs) (o : Obj) : GO inj T lo (w.alloc o) v xs := World.ownsRow.alloc h o
theorem GO.nil (T lo : Nat) (w : World) : GO inj T lo w (.slice none 0 0) [] := World.ownsRow_nil w lo T 1
theorem GO.empty (T : Nat) (w : World) {n : Nat} (hn : n = w.heap.size) {lo : Nat} (hb : lo ≤ w.heap.size) : GO inj T lo (w.alloc (.cells #[] T)) (.slice (some ⟨n, 0, none⟩) 0 0) [] := by
  subst hn
  have := World.ownsRow_lit (e := T) (size := 1) w #[] 0 hb (by simp [maxLen]) rfl
  simpa [GO] using this
theorem GO.block (h : GO inj T lo w v xs) : ∀ g, v.ownBlock = some g → lo ≤ g ∧ g < w.heap.size := World.ownsRow.lt h
theorem GO.own_ge (h : GO inj T lo w v xs) : ∀ k, v.ownBlock = some k → lo ≤ k := fun k hk => (h.block k hk).1
theorem GO.down {lo' : Nat} (h : GO inj T lo w v xs) (hb : lo' ≤ lo) : GO inj T lo' w v xs := by
  refine ⟨h.1, ?_⟩
  rcases h.2 with h0 | ⟨g, cap, cur, hv, hg, rest⟩
  · exact .inl h0
  · exact .inr ⟨g, cap, cur, hv, Nat.le_trans hb hg, rest⟩
theorem GO.slice (h : GO inj T lo w v xs) : ∃ ao c, v = .slice ao xs.length c ∧ xs.length ≤ c ∧ c ≤ 9223372036854775807 := h.gl.slice
theorem GO.other {β : Type} {inj' : β → Value} {T' lo' : Nat} {v' : Value} {ys : List β} {row : Option Nat} (h : GO inj T lo w v xs) (hg : w.grownBy w' row) (hr : ∀ g, row = some g → v.ownBlock ≠ some g) : GO inj T lo w' v xs := by
  refine h.kept hg ?_
  cases hv : v.ownBlock with
  | none => exact .inl rfl
  | some g => exact .inr fun e => hr g e.symm hv
theorem GO.grown_low {B : Nat} {row : Option Nat} (h : GO inj T lo w v xs) (hlow : ∀ g, v.ownBlock = some g → g < B) (hg : w.grownBy w' row) (hr : ∀ g, row = some g → B ≤ g) : GO inj T lo w' v xs := by
  refine h.kept hg ?_
  cases hv : v.ownBlock with
  | none => exact .inl rfl
  | some g =>
    refine .inr fun e => ?_
    have := hlow g hv
    have := hr g e.symm
    omega
theorem GW.of (h : GO inj T lo w v xs) : GW inj T lo w.heap.size w v xs := ⟨h, fun g hg => (h.block g hg).2⟩
theorem GW.keep {a b : Nat} (h : GW inj T lo hi w v xs) (hw : Wi a b w w') (hd : b ≤ lo ∨ hi ≤ a) : GW inj T lo hi w' v xs := ⟨own_wi h.1 h.2 hw hd, h.2⟩
theorem GW.gl (h : GW inj T lo hi w v xs) : GL inj w v xs := h.1.gl
end

theorem quiet_dr {P : Program} {f : FuncId} {args : Array Value} {w : World} {n : Nat} {v : Value}
    (h : Calls P f args (w.drewN n) fun e w' => e = .returned v ∧ Dr (w.drewN n) w') : Calls P f args (w.drewN n) fun e w'' => e = .returned v ∧ ∃ m, w'' = w.drewN m :=
  h.mono fun _ _ ⟨he, m, hm⟩ => ⟨he, n + m, by rw [← hm, World.drewN_drewN]⟩
theorem quiet_dr2 {P : Program} {f : FuncId} {args : Array Value} {w : World} {d n : Nat} {v : Value}
    (h : Calls P f args (w.drewN (d + n)) fun e w' => e = .returned v ∧ Dr (w.drewN (d + n)) w') : Calls P f args (w.drewN (d + n)) fun e w'' => e = .returned v ∧ ∃ m, w'' = w.drewN (d + m) :=
  h.mono fun _ _ ⟨he, m, hm⟩ => ⟨he, n + m, by rw [← hm, World.drewN_drewN, Nat.add_assoc]⟩

/-- What a program says of a one-cell type and of its slices. -/
structure OneC (P : Program) (S T : Nat) (z : Value) (by_ : Nat) : Prop where
  slice : P.underlying S = some (.slice T)
  info : ∃ i, P.info? T = some i ∧ i.zero = some z ∧ i.size = 1 ∧ i.bytes = by_
  one : z.cells = #[z]
  small : by_ ≤ 32
theorem oneC_of {P : Program} {S T : Nat} {z : Value} {by_ : Nat} (h1 : P.underlying S = some (.slice T)) (h2 : (P.info? T).map (fun i => (i.zero, i.size, i.bytes)) = some (some z, 1, by_)) (h3 : z.cells = #[z]) (h4 : by_ ≤ 32) : OneC P S T z by_ := ⟨h1, info_parts h2, h3, h4⟩

section
variable {α : Type} {inj : α → Value} {P : Program} {S T : Nat} {z : Value} {by_ : Nat}
/-- append of numbers that have just been put into a new block. -/
theorem wpList_gapp (F : OneC P S T z by_) (hinj : ∀ x, (inj x).oneCell' = true) {ops : Array Oper} {Q : Exit → Act → World → Prop} {a : Act} {w : World} {rest : List Oper} {dst : Option Tmp} {s x : Operand} {type : TypeId} {pos : String} {after : Array Edge}
    (lo : Nat) (v : Value) (xs : List α) (hs : a.eval s = v) (hown : GO inj T lo w v xs) (ys : List α) (b m : Nat) (hm : m = ys.length) (hx : a.eval x = .slice (some ⟨b, 0, none⟩) m m) (hc : ∀ i u, ys[i]? = some u → w.cell? ⟨b, i, none⟩ = some (inj u))
    (hl : xs.length + ys.length < 1099511627776) (hbase : lo ≤ w.heap.size)
    (h : ∀ v' w', GO inj T lo w' v' (xs ++ ys) → w.grownBy w' v.ownBlock → wpList P ops Q rest (a.put dst v') w') :
    wpList P ops Q ({ dst := dst, op := .call { callee := .builtin .append, args := #[s, x], argTypes := #[S, S] }, type := type, pos := pos, after := after, guard := none } :: rest) a w := by
  obtain ⟨i, hi, hz, hsz, hby⟩ := F.info
  have h16 := F.small
  subst hm
  refine wpList_append_own (P := P) w rfl s x S rfl lo T i z 1 by_ F.slice hi hz hsz hby (by rw [F.one]; rfl) (by decide) v xs.length _ hs hown ⟨b, 0, none⟩ ys.length ys.length (ys.map inj) hx (by simp) ?_ ?_ ?_ ?_ hbase ?_
  · intro j u hu
    rw [List.getElem?_map] at hu
    obtain ⟨y, hy, rfl⟩ := Option.map_eq_some_iff.1 hu
    rw [Addr.add_lit, Nat.zero_add]
    exact hc j y hy
  · intro u hu
    obtain ⟨y, _, rfl⟩ := List.mem_map.1 hu
    exact hinj y
  · have : maxLen = 9223372036854775807 := rfl
    omega
  · have : (xs.length + ys.length) * by_ ≤ 1099511627776 * 32 := Nat.mul_le_mul (by omega) h16
    omega
  · intro v' w' h1 h2 _
    refine h v' w' ?_ h2
    unfold GO
    rw [List.length_append, List.map_append]
    exact h1
theorem step_gapp (F : OneC P S T z by_) (hinj : ∀ x, (inj x).oneCell' = true) {ops : Array Oper} {Q : Exit → Act → World → Prop} {a : Act} {w : World} {K : Act → World → Prop} {E : Prop} {dst : Option Tmp} {s x : Operand} {type : TypeId} {pos : String} {after : Array Edge}
    (lo : Nat) (v : Value) (xs : List α) (hs : a.eval s = v) (hown : GO inj T lo w v xs) (ys : List α) (b m : Nat) (hm : m = ys.length) (hx : a.eval x = .slice (some ⟨b, 0, none⟩) m m) (hc : ∀ i u, ys[i]? = some u → w.cell? ⟨b, i, none⟩ = some (inj u))
    (hl : xs.length + ys.length < 1099511627776) (hbase : lo ≤ w.heap.size)
    (h : ∀ v' w', GO inj T lo w' v' (xs ++ ys) → w.grownBy w' v.ownBlock → K (a.put dst v') w') :
    if Region.wanted { dst := dst, op := .call { callee := .builtin .append, args := #[s, x], argTypes := #[S, S] }, type := type, pos := pos, after := after, guard := none } (yielded ops a.tmps) = true then
      Oper.wp P { dst := dst, op := .call { callee := .builtin .append, args := #[s, x], argTypes := #[S, S] }, type := type, pos := pos, after := after, guard := none } a w K Q else E := by
  rw [if_pos (by simp [Region.wanted])]
  obtain ⟨i, hi, hz, hsz, hby⟩ := F.info
  have h16 := F.small
  subst hm
  refine wp_append_own w s x S rfl lo T i z 1 by_ F.slice hi hz hsz hby (by rw [F.one]; rfl) (by decide) v xs.length _ hs hown ⟨b, 0, none⟩ ys.length ys.length (ys.map inj) hx (by simp) ?_ ?_ ?_ ?_ hbase ?_
  · intro j u hu
    rw [List.getElem?_map] at hu
    obtain ⟨y, hy, rfl⟩ := Option.map_eq_some_iff.1 hu
    rw [Addr.add_lit, Nat.zero_add]
    exact hc j y hy
  · intro u hu
    obtain ⟨y, _, rfl⟩ := List.mem_map.1 hu
    exact hinj y
  · have : maxLen = 9223372036854775807 := rfl
    omega
  · have : (xs.length + ys.length) * by_ ≤ 1099511627776 * 32 := Nat.mul_le_mul (by omega) h16
    omega
  · intro v' w' h1 h2 _
    refine h v' w' ?_ h2
    unfold GO
    rw [List.length_append, List.map_append]
    exact h1
/-- make([]T, n). -/
theorem wpList_gmake (F : OneC P S T z by_) (x0 : α) (hz0 : inj x0 = z) {ops : Array Oper} {Q : Exit → Act → World → Prop} {a : Act} {w : World} {rest : List Oper} {dst : Option Tmp} {l c : Operand} {type : TypeId} {pos : String} {after : Array Edge}
    (n : Nat) (hl : a.eval l = .int .i64 (n : Int)) (hc : a.eval c = .int .i64 (n : Int)) (hn : n < 1099511627776)
    (h : ∀ w', GO inj T w.heap.size w' (.slice (some ⟨w.heap.size, 0, none⟩) n n) (List.replicate n x0) → w.grownBy w' none → wpList P ops Q rest (a.put dst (.slice (some ⟨w.heap.size, 0, none⟩) n n)) w') :
    wpList P ops Q ({ dst := dst, op := .makeSlice S l c, type := type, pos := pos, after := after, guard := none } :: rest) a w := by
  obtain ⟨i, hi, hz, hsz, hby⟩ := F.info
  have h16 := F.small
  refine wpList_make_full (P := P) w rfl l c S rfl w.heap.size T i z 1 F.slice hi hz hsz .i64 .i64 _ _ n hl hc rfl rfl ?_ (by have : maxLen = 9223372036854775807 := rfl; omega) (Nat.le_refl _) ?_
  · have : n * by_ ≤ 1099511627776 * 32 := Nat.mul_le_mul (by omega) h16
    rw [hby, Nat.mul_comm]; omega
  · intro w' h1 h2
    refine h w' ?_ h2
    have e : (madeCells z.cells (n * 1)).toList = (List.replicate n x0).map inj := by
      rw [Nat.mul_one, F.one, toList_madeCells_one]
      simp [hz0]
    rw [e] at h1
    unfold GO
    simpa using h1
/-- A slice of the call's own at which something is stored. -/
theorem GO.at_ {lo : Nat} {w : World} {v : Value} {xs : List α} (h : GO inj T lo w v xs) {k : Nat} (hk : k < xs.length) :
    ∃ g cap, v = .slice (some ⟨g, 0, none⟩) xs.length cap ∧ lo ≤ g ∧ g < w.heap.size ∧ w.cell? ⟨g, k, none⟩ = some (inj xs[k]) ∧ w.frozen? ⟨g, k, none⟩ = false ∧
      ∀ y, GO inj T lo (w.setCell ⟨g, k, none⟩ (inj y)) v (xs.set k y) ∧ w.grownBy (w.setCell ⟨g, k, none⟩ (inj y)) (some g) := by
  have ho : w.ownsRow lo T 1 v xs.length (xs.map inj) := h
  rcases ho.2 with ⟨rfl, h0⟩ | ⟨g, cap, cur, rfl, hb, hg, hn, hm, hs, ht⟩
  · omega
  · refine ⟨g, cap, rfl, hb, (ho.lt g rfl).2, ?_, ho.frozenAt k, fun y => ?_⟩
    · rw [ho.cellAt k (by omega)]
      simp [hk]
    · obtain ⟨h1, h2⟩ := ho.stored k (inj y)
      refine ⟨?_, h2⟩
      unfold GO
      rw [List.length_set, List.map_set]
      exact h1
end

end Go.Proofs.Ytkkomajokdlkeaa
