/- What is followed through the worlds of a law: memory between two block numbers. -/
import Derived.Lib.AppendStr
import Derived.Lib.ConvBytes
import Derived.Laws.IdiomStrings
import Derived.Test.YtkkomajokdlkeaaQ3
namespace Go.Proofs.Ytkkomajokdlkeaa
set_option linter.unusedSimpArgs false
set_option linter.unusedVariables false
set_option maxRecDepth 100000
set_option maxHeartbeats 4000000
open Go.RowKit

/-- All blocks are as they were, but those from lo on and below hi. -/
structure Wi (lo hi : Nat) (w w' : World) : Prop where
  os : w'.os = w.os
  tape : w'.tape = w.tape
  output : w'.output = w.output
  size : w.heap.size ≤ w'.heap.size
  block : ∀ k, k < w.heap.size → (k < lo ∨ hi ≤ k) → w'.heap[k]? = w.heap[k]?
theorem Wi.of_below {w w' : World} (h : Below w.heap.size w w') : Wi 0 0 w w' := ⟨h.os, h.tape, h.output, h.size, fun k hk _ => h.block k hk⟩
theorem Wi.below {lo hi B : Nat} {w w' : World} (h : Wi lo hi w w') (h1 : B ≤ w.heap.size) (h2 : B ≤ lo ∨ hi ≤ 0) : Below B w w' :=
  ⟨h.os, h.tape, h.output, h.size, fun k hk => h.block k (by omega) (by omega)⟩
theorem Wi.of_grown {lo hi : Nat} {w w' : World} {row : Option Nat} (h : w.grownBy w' row) (hr : ∀ g, row = some g → lo ≤ g ∧ g < hi) : Wi lo hi w w' :=
  ⟨h.os, h.tape, h.output, h.size, fun k hk hx => h.block k hk (fun e => by have := hr k e.symm; omega)⟩
theorem Wi.refl (lo hi : Nat) (w : World) : Wi lo hi w w := ⟨rfl, rfl, rfl, Nat.le_refl _, fun _ _ _ => rfl⟩
theorem Wi.trans {lo hi : Nat} {w w1 w2 : World} (h : Wi lo hi w w1) (h' : Wi lo hi w1 w2) : Wi lo hi w w2 :=
  ⟨h'.os.trans h.os, h'.tape.trans h.tape, h'.output.trans h.output, Nat.le_trans h.size h'.size, fun k hk hx => (h'.block k (Nat.lt_of_lt_of_le hk h.size) hx).trans (h.block k hk hx)⟩
theorem Wi.mono {lo hi lo' hi' : Nat} {w w' : World} (h : Wi lo hi w w') (h1 : lo' ≤ lo) (h2 : hi ≤ hi') : Wi lo' hi' w w' :=
  ⟨h.os, h.tape, h.output, h.size, fun k hk hx => h.block k hk (by omega)⟩
theorem Dr.wi {w w' : World} (h : Dr w w') : Wi 0 0 w w' := Wi.of_below (h.below _)

theorem own_wi {e size lo hi a b : Nat} {w w' : World} {v : Value} {n : Nat} {xs : List Value} (h : w.ownsRow lo e size v n xs) (hh : ∀ g, v.ownBlock = some g → g < hi) (hw : Wi a b w w') (hd : b ≤ lo ∨ hi ≤ a) : w'.ownsRow lo e size v n xs := by
  refine ⟨h.1, ?_⟩
  rcases h.2 with hn | ⟨g, cap, cur, rfl, hb, hgg, rest⟩
  · exact .inl hn
  · have hg := hh g rfl
    refine .inr ⟨g, cap, cur, rfl, hb, ?_, rest⟩
    rw [hw.block g (Array.getElem?_eq_some_iff.1 hgg).1 (by omega)]
    exact hgg

/-- A slice of float32 numbers in blocks from lo on and below hi. -/
def FW (T lo hi : Nat) (w : World) (v : Value) (cs : List Nat) : Prop := OW T lo w v cs ∧ ∀ g, v.ownBlock = some g → g < hi
theorem FW.of {T lo : Nat} {w : World} {v : Value} {cs : List Nat} (h : OW T lo w v cs) : FW T lo w.heap.size w v cs := ⟨h, fun g hg => (h.block g hg).2⟩
theorem FW.keep {T lo hi a b : Nat} {w w' : World} {v : Value} {cs : List Nat} (h : FW T lo hi w v cs) (hw : Wi a b w w') (hd : b ≤ lo ∨ hi ≤ a) : FW T lo hi w' v cs := by
  obtain ⟨⟨xs, ho, r⟩, hh⟩ := h
  exact ⟨⟨xs, own_wi ho hh hw hd, r⟩, hh⟩
theorem FW.sl {T lo hi : Nat} {w : World} {v : Value} {cs : List Nat} (h : FW T lo hi w v cs) : SL w v cs := h.1.sb.sl
theorem FW.sb {T lo hi : Nat} {w : World} {v : Value} {cs : List Nat} (h : FW T lo hi w v cs) : SB w v cs := h.1.sb

/-- What is followed is kept below a number. -/
theorem SB.below {w w' : World} {v : Value} {cs : List Nat} {B : Nat} (h : SB w v cs) (hb : Below B w w') (hB : w.heap.size ≤ B) : SB w' v cs := h.keep (hb.mono hB)

end Go.Proofs.Ytkkomajokdlkeaa

namespace Go.Proofs.Ytkkomajokdlkeaa
set_option linter.unusedSimpArgs false
set_option linter.unusedVariables false
set_option maxRecDepth 100000
set_option maxHeartbeats 4000000
open Go.RowKit

/-- A slice of one-cell elements in memory of the call's own, from block lo on. -/
def GO {α : Type} (inj : α → Value) (T lo : Nat) (w : World) (v : Value) (xs : List α) : Prop := w.ownsRow lo T 1 v xs.length (xs.map inj)
/-- .. and below hi. -/
def GW {α : Type} (inj : α → Value) (T lo hi : Nat) (w : World) (v : Value) (xs : List α) : Prop := GO inj T lo w v xs ∧ ∀ g, v.ownBlock = some g → g < hi
/-- Such a slice is read. -/
def GL {α : Type} (inj : α → Value) (w : World) (v : Value) (xs : List α) : Prop :=
  ∃ (ao : Option Addr) (c : Nat), v = .slice ao xs.length c ∧ (xs.length ≤ c ∧ c ≤ 9223372036854775807) ∧
    ∀ i (h : i < xs.length), ∃ b off, ao = some ⟨b, off, none⟩ ∧ b < w.heap.size ∧ w.cell? ⟨b, off + i, none⟩ = some (inj xs[i])

section
variable {α : Type} {inj : α → Value} {T lo hi : Nat} {w w' : World} {v : Value} {xs : List α}
theorem GL.keep (h : GL inj w v xs) (hb : Below w.heap.size w w') : GL inj w' v xs := by
  obtain ⟨ao, c, h1, h3, h4⟩ := h
  refine ⟨ao, c, h1, h3, fun i hi => ?_⟩
  obtain ⟨b, off, e1, e2, e3⟩ := h4 i hi
  exact ⟨b, off, e1, Nat.lt_of_lt_of_le e2 hb.size, by rw [hb.cell (p := ⟨b, off + i, none⟩) e2]; exact e3⟩
theorem GL.below {B : Nat} (h : GL inj w v xs) (hb : Below B w w') (hB : w.heap.size ≤ B) : GL inj w' v xs := h.keep (hb.mono hB)
theorem GL.drewN (h : GL inj w v xs) (n : Nat) : GL inj (w.drewN n) v xs := h
theorem GL.drew (h : GL inj w v xs) : GL inj w.drew v xs := h
theorem GL.slice (h : GL inj w v xs) : ∃ ao c, v = .slice ao xs.length c ∧ xs.length ≤ c ∧ c ≤ 9223372036854775807 := by
  obtain ⟨ao, c, h1, h3, _⟩ := h
  exact ⟨ao, c, h1, h3⟩
theorem GL.nil (w : World) : GL inj w (.slice none 0 0) ([] : List α) := ⟨none, 0, rfl, by simp, fun i hi => by cases hi⟩
theorem GO.gl (h : GO inj T lo w v xs) : GL inj w v xs := by
  rcases h.2 with ⟨rfl, h0⟩ | ⟨g, cap, cur, rfl, hb, hg, hn, hm, hs, ht⟩
  · have : xs = [] := List.eq_nil_of_length_eq_zero h0
    subst this
    exact GL.nil w
  · refine ⟨some ⟨g, 0, none⟩, cap, rfl, ⟨hn, ?_⟩, fun i hi => ⟨g, 0, rfl, ?_, ?_⟩⟩
    · have : maxLen = 9223372036854775807 := rfl
      omega
    · rcases Nat.lt_or_ge g w.heap.size with h' | h'
      · exact h'
      · rw [Array.getElem?_eq_none h'] at hg; cases hg
    · rw [Nat.zero_add, World.ownsRow.cellAt h i (by omega)]
      simp [hi]
theorem GO.kept {row : Option Nat} (h : GO inj T lo w v xs) (hg : w.grownBy w' row) (hne : v.ownBlock = none ∨ v.ownBlock ≠ row) : GO inj T lo w' v xs := World.ownsRow.kept h hg hne
theorem GO.keep (h : GO inj T lo w v xs) (hb : Below w.heap.size w w') : GO inj T lo w' v xs := h.kept (grown_of_below hb none) (by cases v.ownBlock <;> simp)
theorem GO.drewN (h : GO inj T lo w v xs) (n : Nat) : GO inj T lo (w.drewN n) v xs := h
theorem GO.drew (h : GO inj T lo w v xs) : GO inj T lo w.drew v xs := h
theorem GO.alloc (h : GO inj T lo w v xs) (o : Obj) : GO inj T lo (w.alloc o) v xs := World.ownsRow.alloc h o
theorem GO.nil (T lo : Nat) (w : World) : GO inj T lo w (.slice none 0 0) [] := World.ownsRow_nil w lo T 1
theorem GO.empty (T : Nat) (w : World) {n : Nat} (hn : n = w.heap.size) {lo : Nat} (hb : lo ≤ w.heap.size) : GO inj T lo (w.alloc (.cells #[] T)) (.slice (some ⟨n, 0, none⟩) 0 0) [] := by
  subst hn
  have := World.ownsRow_lit (e := T) (size := 1) w #[] 0 hb (by simp [maxLen]) rfl
  simpa [GO] using this
theorem GO.block (h : GO inj T lo w v xs) : ∀ g, v.ownBlock = some g → lo ≤ g ∧ g < w.heap.size := World.ownsRow.lt h
theorem GO.own_ge (h : GO inj T lo w v xs) : ∀ k, v.ownBlock = some k → lo ≤ k := fun k hk => (h.block k hk).1
theorem GO.down {lo' : Nat} (h : GO inj T lo w v xs) (hb : lo' ≤ lo) : GO inj T lo' w v xs := by
  refine ⟨h.1, ?_⟩
  rcases h.2 with h0 | ⟨g, cap, cur, hv, hg, rest⟩
  · exact .inl h0
  · exact .inr ⟨g, cap, cur, hv, Nat.le_trans hb hg, rest⟩
theorem GO.slice (h : GO inj T lo w v xs) : ∃ ao c, v = .slice ao xs.length c ∧ xs.length ≤ c ∧ c ≤ 9223372036854775807 := h.gl.slice
theorem GO.other {β : Type} {inj' : β → Value} {T' lo' : Nat} {v' : Value} {ys : List β} {row : Option Nat} (h : GO inj T lo w v xs) (hg : w.grownBy w' row) (hr : ∀ g, row = some g → v.ownBlock ≠ some g) : GO inj T lo w' v xs := by
  refine h.kept hg ?_
  cases hv : v.ownBlock with
  | none => exact .inl rfl
  | some g => exact .inr fun e => hr g e.symm hv
theorem GO.grown_low {B : Nat} {row : Option Nat} (h : GO inj T lo w v xs) (hlow : ∀ g, v.ownBlock = some g → g < B) (hg : w.grownBy w' row) (hr : ∀ g, row = some g → B ≤ g) : GO inj T lo w' v xs := by
  refine h.kept hg ?_
  cases hv : v.ownBlock with
  | none => exact .inl rfl
  | some g =>
    refine .inr fun e => ?_
    have := hlow g hv
    have := hr g e.symm
    omega
theorem GW.of (h : GO inj T lo w v xs) : GW inj T lo w.heap.size w v xs := ⟨h, fun g hg => (h.block g hg).2⟩
theorem GW.keep {a b : Nat} (h : GW inj T lo hi w v xs) (hw : Wi a b w w') (hd : b ≤ lo ∨ hi ≤ a) : GW inj T lo hi w' v xs := ⟨own_wi h.1 h.2 hw hd, h.2⟩
theorem GW.gl (h : GW inj T lo hi w v xs) : GL inj w v xs := h.1.gl
end

theorem quiet_dr {P : Program} {f : FuncId} {args : Array Value} {w : World} {n : Nat} {v : Value}
    (h : Calls P f args (w.drewN n) fun e w' => e = .returned v ∧ Dr (w.drewN n) w') : Calls P f args (w.drewN n) fun e w'' => e = .returned v ∧ ∃ m, w'' = w.drewN m :=
  h.mono fun _ _ ⟨he, m, hm⟩ => ⟨he, n + m, by rw [← hm, World.drewN_drewN]⟩
theorem quiet_dr2 {P : Program} {f : FuncId} {args : Array Value} {w : World} {d n : Nat} {v : Value}
    (h : Calls P f args (w.drewN (d + n)) fun e w' => e = .returned v ∧ Dr (w.drewN (d + n)) w') : Calls P f args (w.drewN (d + n)) fun e w'' => e = .returned v ∧ ∃ m, w'' = w.drewN (d + m) :=
  h.mono fun _ _ ⟨he, m, hm⟩ => ⟨he, n + m, by rw [← hm, World.drewN_drewN, Nat.add_assoc]⟩

/-- What a program says of a one-cell type and of its slices. -/
structure OneC (P : Program) (S T : Nat) (z : Value) (by_ : Nat) : Prop where
  slice : P.underlying S = some (.slice T)
  info : ∃ i, P.info? T = some i ∧ i.zero = some z ∧ i.size = 1 ∧ i.bytes = by_
  one : z.cells = #[z]
  small : by_ ≤ 32
theorem oneC_of {P : Program} {S T : Nat} {z : Value} {by_ : Nat} (h1 : P.underlying S = some (.slice T)) (h2 : (P.info? T).map (fun i => (i.zero, i.size, i.bytes)) = some (some z, 1, by_)) (h3 : z.cells = #[z]) (h4 : by_ ≤ 32) : OneC P S T z by_ := ⟨h1, info_parts h2, h3, h4⟩

section
variable {α : Type} {inj : α → Value} {P : Program} {S T : Nat} {z : Value} {by_ : Nat}
/-- append of numbers that have just been put into a new block. -/
theorem wpList_gapp (F : OneC P S T z by_) (hinj : ∀ x, (inj x).oneCell' = true) {ops : Array Oper} {Q : Exit → Act → World → Prop} {a : Act} {w : World} {rest : List Oper} {dst : Option Tmp} {s x : Operand} {type : TypeId} {pos : String} {after : Array Edge}
    (lo : Nat) (v : Value) (xs : List α) (hs : a.eval s = v) (hown : GO inj T lo w v xs) (ys : List α) (b m : Nat) (hm : m = ys.length) (hx : a.eval x = .slice (some ⟨b, 0, none⟩) m m) (hc : ∀ i u, ys[i]? = some u → w.cell? ⟨b, i, none⟩ = some (inj u))
    (hl : xs.length + ys.length < 1099511627776) (hbase : lo ≤ w.heap.size)
    (h : ∀ v' w', GO inj T lo w' v' (xs ++ ys) → w.grownBy w' v.ownBlock → wpList P ops Q rest (a.put dst v') w') :
    wpList P ops Q ({ dst := dst, op := .call { callee := .builtin .append, args := #[s, x], argTypes := #[S, S] }, type := type, pos := pos, after := after, guard := none } :: rest) a w := by
  obtain ⟨i, hi, hz, hsz, hby⟩ := F.info
  have h16 := F.small
  subst hm
  refine wpList_append_own (P := P) w rfl s x S rfl lo T i z 1 by_ F.slice hi hz hsz hby (by rw [F.one]; rfl) (by decide) v xs.length _ hs hown ⟨b, 0, none⟩ ys.length ys.length (ys.map inj) hx (by simp) ?_ ?_ ?_ ?_ hbase ?_
  · intro j u hu
    rw [List.getElem?_map] at hu
    obtain ⟨y, hy, rfl⟩ := Option.map_eq_some_iff.1 hu
    rw [Addr.add_lit, Nat.zero_add]
    exact hc j y hy
  · intro u hu
    obtain ⟨y, _, rfl⟩ := List.mem_map.1 hu
    exact hinj y
  · have : maxLen = 9223372036854775807 := rfl
    omega
  · have : (xs.length + ys.length) * by_ ≤ 1099511627776 * 32 := Nat.mul_le_mul (by omega) h16
    omega
  · intro v' w' h1 h2 _
    refine h v' w' ?_ h2
    unfold GO
    rw [List.length_append, List.map_append]
    exact h1
theorem step_gapp (F : OneC P S T z by_) (hinj : ∀ x, (inj x).oneCell' = true) {ops : Array Oper} {Q : Exit → Act → World → Prop} {a : Act} {w : World} {K : Act → World → Prop} {E : Prop} {dst : Option Tmp} {s x : Operand} {type : TypeId} {pos : String} {after : Array Edge}
    (lo : Nat) (v : Value) (xs : List α) (hs : a.eval s = v) (hown : GO inj T lo w v xs) (ys : List α) (b m : Nat) (hm : m = ys.length) (hx : a.eval x = .slice (some ⟨b, 0, none⟩) m m) (hc : ∀ i u, ys[i]? = some u → w.cell? ⟨b, i, none⟩ = some (inj u))
    (hl : xs.length + ys.length < 1099511627776) (hbase : lo ≤ w.heap.size)
    (h : ∀ v' w', GO inj T lo w' v' (xs ++ ys) → w.grownBy w' v.ownBlock → K (a.put dst v') w') :
    if Region.wanted { dst := dst, op := .call { callee := .builtin .append, args := #[s, x], argTypes := #[S, S] }, type := type, pos := pos, after := after, guard := none } (yielded ops a.tmps) = true then
      Oper.wp P { dst := dst, op := .call { callee := .builtin .append, args := #[s, x], argTypes := #[S, S] }, type := type, pos := pos, after := after, guard := none } a w K Q else E := by
  rw [if_pos (by simp [Region.wanted])]
  obtain ⟨i, hi, hz, hsz, hby⟩ := F.info
  have h16 := F.small
  subst hm
  refine wp_append_own w s x S rfl lo T i z 1 by_ F.slice hi hz hsz hby (by rw [F.one]; rfl) (by decide) v xs.length _ hs hown ⟨b, 0, none⟩ ys.length ys.length (ys.map inj) hx (by simp) ?_ ?_ ?_ ?_ hbase ?_
  · intro j u hu
    rw [List.getElem?_map] at hu
    obtain ⟨y, hy, rfl⟩ := Option.map_eq_some_iff.1 hu
    rw [Addr.add_lit, Nat.zero_add]
    exact hc j y hy
  · intro u hu
    obtain ⟨y, _, rfl⟩ := List.mem_map.1 hu
    exact hinj y
  · have : maxLen = 9223372036854775807 := rfl
    omega
  · have : (xs.length + ys.length) * by_ ≤ 1099511627776 * 32 := Nat.mul_le_mul (by omega) h16
    omega
  · intro v' w' h1 h2 _
    refine h v' w' ?_ h2
    unfold GO
    rw [List.length_append, List.map_append]
    exact h1
/-- make([]T, n). -/
theorem wpList_gmake (F : OneC P S T z by_) (x0 : α) (hz0 : inj x0 = z) {ops : Array Oper} {Q : Exit → Act → World → Prop} {a : Act} {w : World} {rest : List Oper} {dst : Option Tmp} {l c : Operand} {type : TypeId} {pos : String} {after : Array Edge}
    (n : Nat) (hl : a.eval l = .int .i64 (n : Int)) (hc : a.eval c = .int .i64 (n : Int)) (hn : n < 1099511627776)
    (h : ∀ w', GO inj T w.heap.size w' (.slice (some ⟨w.heap.size, 0, none⟩) n n) (List.replicate n x0) → w.grownBy w' none → wpList P ops Q rest (a.put dst (.slice (some ⟨w.heap.size, 0, none⟩) n n)) w') :
    wpList P ops Q ({ dst := dst, op := .makeSlice S l c, type := type, pos := pos, after := after, guard := none } :: rest) a w := by
  obtain ⟨i, hi, hz, hsz, hby⟩ := F.info
  have h16 := F.small
  refine wpList_make_full (P := P) w rfl l c S rfl w.heap.size T i z 1 F.slice hi hz hsz .i64 .i64 _ _ n hl hc rfl rfl ?_ (by have : maxLen = 9223372036854775807 := rfl; omega) (Nat.le_refl _) ?_
  · have : n * by_ ≤ 1099511627776 * 32 := Nat.mul_le_mul (by omega) h16
    rw [hby, Nat.mul_comm]; omega
  · intro w' h1 h2
    refine h w' ?_ h2
    have e : (madeCells z.cells (n * 1)).toList = (List.replicate n x0).map inj := by
      rw [Nat.mul_one, F.one, toList_madeCells_one]
      simp [hz0]
    rw [e] at h1
    unfold GO
    simpa using h1
/-- A slice of the call's own at which something is stored. -/
theorem GO.at_ {lo : Nat} {w : World} {v : Value} {xs : List α} (h : GO inj T lo w v xs) {k : Nat} (hk : k < xs.length) :
    ∃ g cap, v = .slice (some ⟨g, 0, none⟩) xs.length cap ∧ lo ≤ g ∧ g < w.heap.size ∧ w.cell? ⟨g, k, none⟩ = some (inj xs[k]) ∧ w.frozen? ⟨g, k, none⟩ = false ∧
      ∀ y, GO inj T lo (w.setCell ⟨g, k, none⟩ (inj y)) v (xs.set k y) ∧ w.grownBy (w.setCell ⟨g, k, none⟩ (inj y)) (some g) := by
  have ho : w.ownsRow lo T 1 v xs.length (xs.map inj) := h
  rcases ho.2 with ⟨rfl, h0⟩ | ⟨g, cap, cur, rfl, hb, hg, hn, hm, hs, ht⟩
  · omega
  · refine ⟨g, cap, rfl, hb, (ho.lt g rfl).2, ?_, ho.frozenAt k, fun y => ?_⟩
    · rw [ho.cellAt k (by omega)]
      simp [hk]
    · obtain ⟨h1, h2⟩ := ho.stored k (inj y)
      refine ⟨?_, h2⟩
      unfold GO
      rw [List.length_set, List.map_set]
      exact h1
end

end Go.Proofs.Ytkkomajokdlkeaa

namespace Go.Proofs.Ytkkomajokdlkeaa
set_option linter.unusedSimpArgs false
set_option linter.unusedVariables false
set_option maxRecDepth 100000
set_option maxHeartbeats 4000000
open Go.RowKit

/-- A byte as a value. -/
def byV (b : UInt8) : Value := .int .u8 (b.toNat : Int)
theorem byV_one (b : UInt8) : (byV b).oneCell' = true := rfl
/-- The byte of a number. -/
def u8 (n : Int) : UInt8 := UInt8.ofNat (n % 256).toNat
theorem u8_val (n : Int) : ((u8 n).toNat : Int) = n % 256 := by
  have h1 := Int.emod_nonneg n (show (256 : Int) ≠ 0 by decide)
  have h2 := Int.emod_lt_of_pos n (show (0 : Int) < 256 by decide)
  unfold u8
  rw [UInt8.toNat_ofNat']
  omega
theorem byV_u8 (n : Int) : byV (u8 n) = .int .u8 (n % 256) := by unfold byV; rw [u8_val]
theorem u8_byte (b : UInt8) : u8 (b.toNat : Int) = b := by
  apply UInt8.toNat_inj.1
  have h := u8_val (b.toNat : Int)
  have h2 := b.toNat_lt
  omega
/-- A number in k bytes, the least one first. -/
def leB (n : Int) : Nat → List UInt8
  | 0 => []
  | k + 1 => leB n k ++ [u8 (n / 256 ^ k)]
theorem leB_length (n : Int) (k : Nat) : (leB n k).length = k := by
  induction k with
  | zero => rfl
  | succ k ih => simp [leB, ih]
theorem pow256 (n : Int) (k : Nat) : n / 256 ^ k / 256 = n / 256 ^ (k + 1) := by
  rw [Int.ediv_ediv_of_nonneg (Int.le_of_lt (Int.pow_pos (by decide))), Int.pow_succ]
theorem pow256_nonneg {n : Int} (h : 0 ≤ n) (k : Nat) : 0 ≤ n / 256 ^ k := Int.ediv_nonneg h (Int.le_of_lt (Int.pow_pos (by decide)))
theorem pow256_le {n : Int} (h : 0 ≤ n) (k : Nat) : n / 256 ^ k ≤ n := Int.ediv_le_self _ h
theorem leB4 (n : Int) : leB n 4 = [u8 n, u8 (n / 256), u8 (n / 65536), u8 (n / 16777216)] := by
  simp only [leB, List.nil_append, List.cons_append]
  rw [show (256 : Int) ^ 0 = 1 from rfl, show (256 : Int) ^ 1 = 256 from rfl, show (256 : Int) ^ 2 = 65536 from rfl, show (256 : Int) ^ 3 = 16777216 from rfl, Int.ediv_one]
theorem leB2 (n : Int) : leB n 2 = [u8 n, u8 (n / 256)] := by
  simp only [leB, List.nil_append, List.cons_append]
  rw [show (256 : Int) ^ 0 = 1 from rfl, show (256 : Int) ^ 1 = 256 from rfl, Int.ediv_one]
theorem u8_mod (n : Int) : u8 (n % 256) = u8 n := by
  apply UInt8.toNat_inj.1
  have h := u8_val n
  have h2 := u8_val (n % 256)
  rw [Int.emod_emod_of_dvd _ (Int.dvd_refl 256)] at h2
  omega
/-- The check number of bytes. -/
def ckL (n : Int) (l : List UInt8) : Int := l.foldl (fun n b => (941 * n + (b.toNat : Int) + 199) % 65003) n
theorem ckL_snoc (n : Int) (l : List UInt8) (b : UInt8) : ckL n (l ++ [b]) = (941 * ckL n l + (b.toNat : Int) + 199) % 65003 := by simp [ckL]
theorem ckL_bound {n : Int} (h0 : 0 ≤ n) (h1 : n < 65003) (l : List UInt8) : 0 ≤ ckL n l ∧ ckL n l < 65003 := by
  rcases List.eq_nil_or_concat l with rfl | ⟨l, b, rfl⟩
  · exact ⟨h0, h1⟩
  · rw [List.concat_eq_append, ckL_snoc]
    exact ⟨Int.emod_nonneg _ (by decide), Int.emod_lt_of_pos _ (by decide)⟩
theorem bytes_take_snoc (s : ByteArray) (k : Nat) (h : k < s.size) : s.data.toList.take (k + 1) = s.data.toList.take k ++ [s[k]] := by
  rw [List.take_succ_eq_append_getElem (by simpa using h)]
  rfl
/-- The bytes of what is saved, its check number left out; the whole. -/
def numsB (cs : List Nat) : Nat → List UInt8
  | 0 => []
  | k + 1 => numsB cs k ++ leB (cs.getD k 0 : Nat) 4
theorem numsB_length (cs : List Nat) (k : Nat) : (numsB cs k).length = 4 * k := by
  induction k with
  | zero => rfl
  | succ k ih => simp [numsB, ih, leB_length]; omega
def headB (s : ByteArray) (d : Int) (cs : List Nat) : List UInt8 := [83, 69, 82, 49] ++ [u8 s.size] ++ s.data.toList ++ leB (d + 1000000) 4 ++ [u8 cs.length]
def bodyB (s : ByteArray) (d : Int) (cs : List Nat) : List UInt8 := headB s d cs ++ numsB cs cs.length
def storeB (s : ByteArray) (d : Int) (cs : List Nat) : List UInt8 := bodyB s d cs ++ leB (ckL 0 (bodyB s d cs)) 2
theorem bodyB_length (s : ByteArray) (d : Int) (cs : List Nat) : (bodyB s d cs).length = 10 + s.size + 4 * cs.length := by
  simp [bodyB, headB, numsB_length, leB_length]; omega
theorem storeB_length (s : ByteArray) (d : Int) (cs : List Nat) : (storeB s d cs).length = 12 + s.size + 4 * cs.length := by
  simp [storeB, bodyB_length, leB_length]; omega
/-- What StoreSaved returns. -/
def storeQ (s : ByteArray) (d : Int) (cs : List Nat) (ok : Bool) : ByteArray × Bool := if ok then (⟨(storeB s d cs).toArray⟩, true) else (⟨#[]⟩, false)
section
variable {P : Program} {S T U : Nat}
/-- A string appended to bytes of the call's own. -/
theorem wp_append_str (F : OneC P S T (.int .u8 0) 1) (hu : P.underlying U = some .string) {Q : Exit → Act → World → Prop} {a : Act} {w : World} {K : Act → World → Prop} {o : Oper} (sl x : Operand)
    (ho : o.op = .call { callee := .builtin .append, args := #[sl, x], argTypes := #[S, U] }) (lo : Nat) (v : Value) (xs : List UInt8) (hs : a.eval sl = v) (hown : GO byV T lo w v xs) (s : ByteArray) (hx : a.eval x = .string s)
    (hl : xs.length + s.size < 1099511627776) (hbase : lo ≤ w.heap.size)
    (h : ∀ v' w', GO byV T lo w' v' (xs ++ s.data.toList) → w.grownBy w' v.ownBlock → K (a.put o.dst v') w') : o.wp P a w K Q := by
  obtain ⟨i, hi, hz, hsz, hby⟩ := F.info
  obtain ⟨v', w', hr, h2, h3, _⟩ := Lib.run_append_own_string (P := P) w lo S U o.type T i F.slice hu hi hz hsz hby v xs.length _ hown s (by have : maxLen = 9223372036854775807 := rfl; omega) (by omega) hbase
  unfold Oper.wp execOp
  simp only [ho, resolve, invoke, builtin, Sem.run_bind, Sem.run_pure, Result.andThen_ok, List.map_toArray, List.map_cons, List.map_nil, hs, hx, hr]
  refine h v' w' ?_ h3
  unfold GO
  rw [List.length_append, List.map_append, show s.data.toList.length = s.size from by simp]
  exact h2
/-- string(b). -/
theorem run_str (F : OneC P S T (.int .u8 0) 1) (hu : P.underlying U = some .string) (he : P.underlying T = some (.int .u8)) {lo : Nat} {w : World} {v : Value} {xs : List UInt8} (h : GO byV T lo w v xs) (hne : xs ≠ []) :
    (convert S U v).run P w = .ok (.string ⟨xs.toArray⟩) w := by
  obtain ⟨ao, c, rfl, _, hget⟩ := h.gl
  have hpos : 0 < xs.length := List.length_pos_iff.2 hne
  obtain ⟨b, off, rfl, _, _⟩ := hget 0 hpos
  refine run_convert_bytes_back w S U T ⟨b, off, none⟩ c xs F.slice he hu (fun j hj => ?_)
  obtain ⟨b', off', e1, e2, e3⟩ := hget j hj
  injection e1 with e1
  injection e1 with e1 e4
  subst e1 e4
  rw [Addr.add_lit]
  exact e3
end
theorem cell_lit2 (w : World) (C : Array Value) (T : TypeId) (m : Nat × Nat) (o : Obj) (j : Nat) : ((w.alloc (.cells C T m)).alloc o).cell? ⟨w.heap.size, j, none⟩ = C[j]? := by
  rw [World.cell?_alloc_lt (w.alloc (.cells C T m)) o ⟨w.heap.size, j, none⟩ (by simp)]
  show (match (w.heap.push _)[w.heap.size]? with | some (.cells c _ _) => _ | _ => _) = _
  rw [Array.getElem?_push, if_pos rfl]
  rfl
theorem GO.grown_low2 {α : Type} {inj : α → Value} {T lo B : Nat} {w w' : World} {v : Value} {xs : List α} (h : GO inj T lo w v xs) (hb : Below B w w') (hlt : ∀ g, v.ownBlock = some g → g < B) : GO inj T lo w' v xs := by
  refine ⟨h.1, ?_⟩
  rcases h.2 with h0 | ⟨g, cap, cur, rfl, hbg, hg, rest⟩
  · exact .inl h0
  · exact .inr ⟨g, cap, cur, rfl, hbg, (hb.block g (hlt g rfl)).trans hg, rest⟩
section
variable {α : Type} {inj : α → Value} {P : Program} {S T : Nat} {z : Value} {by_ : Nat}
/-- append of cells that lie at the head of a block, whatever the capacity. -/
theorem wpList_gapp2 (F : OneC P S T z by_) (hinj : ∀ x, (inj x).oneCell' = true) {ops : Array Oper} {Q : Exit → Act → World → Prop} {a : Act} {w : World} {rest : List Oper} {dst : Option Tmp} {s x : Operand} {type : TypeId} {pos : String} {after : Array Edge}
    (lo : Nat) (v : Value) (xs : List α) (hs : a.eval s = v) (hown : GO inj T lo w v xs) (ys : List α) (b m c : Nat) (hm : m = ys.length) (hx : a.eval x = .slice (some ⟨b, 0, none⟩) m c) (hc : ∀ i u, ys[i]? = some u → w.cell? ⟨b, i, none⟩ = some (inj u))
    (hl : xs.length + ys.length < 1099511627776) (hbase : lo ≤ w.heap.size)
    (h : ∀ v' w', GO inj T lo w' v' (xs ++ ys) → w.grownBy w' v.ownBlock → wpList P ops Q rest (a.put dst v') w') :
    wpList P ops Q ({ dst := dst, op := .call { callee := .builtin .append, args := #[s, x], argTypes := #[S, S] }, type := type, pos := pos, after := after, guard := none } :: rest) a w := by
  obtain ⟨i, hi, hz, hsz, hby⟩ := F.info
  have h16 := F.small
  subst hm
  refine wpList_append_own (P := P) w rfl s x S rfl lo T i z 1 by_ F.slice hi hz hsz hby (by rw [F.one]; rfl) (by decide) v xs.length _ hs hown ⟨b, 0, none⟩ ys.length c (ys.map inj) hx (by simp) ?_ ?_ ?_ ?_ hbase ?_
  · intro j u hu
    rw [List.getElem?_map] at hu
    obtain ⟨y, hy, rfl⟩ := Option.map_eq_some_iff.1 hu
    rw [Addr.add_lit, Nat.zero_add]
    exact hc j y hy
  · intro u hu
    obtain ⟨y, _, rfl⟩ := List.mem_map.1 hu
    exact hinj y
  · have : maxLen = 9223372036854775807 := rfl
    omega
  · have : (xs.length + ys.length) * by_ ≤ 1099511627776 * 32 := Nat.mul_le_mul (by omega) h16
    omega
  · intro v' w' h1 h2 _
    refine h v' w' ?_ h2
    unfold GO
    rw [List.length_append, List.map_append]
    exact h1
end
theorem bytesWorld_get (w : World) (e : TypeId) (s : ByteArray) : ∀ i u, s.data.toList[i]? = some u → (Lib.bytesWorld w e s).cell? ⟨w.heap.size, i, none⟩ = some (byV u) := by
  intro i u hu
  have hi : i < s.data.toList.length := (List.getElem?_eq_some_iff.1 hu).1
  rw [Lib.bytesWorld_cell w e s i (by simpa using hi)]
  rw [List.getElem?_eq_getElem hi] at hu
  injection hu with hu
  have hi2 : i < s.data.size := by simpa using hi
  subst hu
  simp only [List.getD, byV, Array.getElem?_toList, Array.getElem?_eq_getElem hi2, Option.getD_some, Array.getElem_toList]
theorem bytesWorld_below {lo : Nat} {w0 w : World} (h : Below lo w0 w) (e : TypeId) (s : ByteArray) (hlo : lo ≤ w.heap.size) : Below lo w0 (Lib.bytesWorld w e s) :=
  h.trans ⟨rfl, rfl, rfl, by rw [Lib.bytesWorld_size]; omega, fun i hi => Lib.bytesWorld_at_old w e s i (by omega)⟩

end Go.Proofs.Ytkkomajokdlkeaa
