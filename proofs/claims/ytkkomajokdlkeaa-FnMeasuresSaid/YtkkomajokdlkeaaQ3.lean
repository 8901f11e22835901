/- Slices of numbers that a call makes itself: made, appended to, stored into. -/
import Derived.Test.YtkkomajokdlkeaaQ2
namespace Go.Proofs.Ytkkomajokdlkeaa
set_option linter.unusedSimpArgs false
set_option linter.unusedVariables false
set_option maxRecDepth 100000
set_option maxHeartbeats 4000000
open Go.RowKit

/-- A slice of float32 numbers in memory of the call's own (from block 'base' on); T: the number of the type float32. -/
def OW (T base : Nat) (w : World) (v : Value) (cs : List Nat) : Prop :=
  ∃ xs : List Nat, w.ownsRow base T 1 v xs.length (xs.map (Value.float .f32)) ∧ xs.map (cn .f32) = cs ∧ ∀ x ∈ xs, x < 4294967296

section
variable {T base : Nat} {w w' : World} {v : Value} {cs : List Nat}

theorem OW.sb (h : OW T base w v cs) : SB w v cs := by
  obtain ⟨xs, ho, hc, hx⟩ := h
  rcases ho.2 with ⟨rfl, h0⟩ | ⟨g, cap, cur, rfl, hb, hg, hn, hm, hs, ht⟩
  · have : xs = [] := List.eq_nil_of_length_eq_zero h0
    subst this
    exact ⟨none, 0, [], rfl, hc, by simp, hx, fun i hi => by cases hi⟩
  · refine ⟨some ⟨g, 0, none⟩, cap, xs, rfl, hc, ⟨hn, ?_⟩, hx, fun i hi => ⟨g, 0, rfl, ?_, ?_⟩⟩
    · have : maxLen = 9223372036854775807 := rfl
      omega
    · rcases Nat.lt_or_ge g w.heap.size with h' | h'
      · exact h'
      · rw [Array.getElem?_eq_none h'] at hg; cases hg
    · rw [Nat.zero_add, ho.cellAt i (by omega)]
      simp [hi]
theorem OW.kept {row : Option Nat} (h : OW T base w v cs) (hg : w.grownBy w' row) (hne : v.ownBlock = none ∨ v.ownBlock ≠ row) : OW T base w' v cs := by
  obtain ⟨xs, ho, r⟩ := h
  exact ⟨xs, ho.kept hg hne, r⟩
theorem grown_of_below (hb : Below w.heap.size w w') (row : Option Nat) : w.grownBy w' row := ⟨hb.os, hb.tape, hb.output, hb.size, fun k hk _ => hb.block k hk⟩
theorem OW.keep (h : OW T base w v cs) (hb : Below w.heap.size w w') : OW T base w' v cs :=
  h.kept (grown_of_below hb none) (by cases v.ownBlock <;> simp)
theorem OW.drewN (h : OW T base w v cs) (n : Nat) : OW T base (w.drewN n) v cs := h
theorem OW.drew (h : OW T base w v cs) : OW T base w.drew v cs := h
theorem OW.alloc (h : OW T base w v cs) (o : Obj) : OW T base (w.alloc o) v cs := by
  obtain ⟨xs, ho, r⟩ := h
  exact ⟨xs, ho.alloc o, r⟩
theorem OW.nil (T base : Nat) (w : World) : OW T base w (.slice none 0 0) [] := ⟨[], World.ownsRow_nil w base T 1, rfl, by simp⟩
theorem OW.empty (T : Nat) (w : World) {n : Nat} (hn : n = w.heap.size) {base : Nat} (hb : base ≤ w.heap.size) : OW T base (w.alloc (.cells #[] T)) (.slice (some ⟨n, 0, none⟩) 0 0) [] := by
  subst hn
  exact ⟨[], by simpa using World.ownsRow_lit (e := T) (size := 1) w #[] 0 hb (by simp [maxLen]) rfl, rfl, by simp⟩
theorem OW.block (h : OW T base w v cs) : ∀ g, v.ownBlock = some g → base ≤ g ∧ g < w.heap.size := by
  obtain ⟨xs, ho, _⟩ := h
  exact ho.lt
theorem OW.down {base' : Nat} (h : OW T base w v cs) (hb : base' ≤ base) : OW T base' w v cs := by
  obtain ⟨xs, ho, r⟩ := h
  refine ⟨xs, ⟨ho.1, ?_⟩, r⟩
  rcases ho.2 with h0 | ⟨g, cap, cur, hv, hg, rest⟩
  · exact .inl h0
  · exact .inr ⟨g, cap, cur, hv, Nat.le_trans hb hg, rest⟩
theorem OW.grown_keep {row : Option Nat} (h : OW T base w v cs) (hg : w.grownBy w' row) (hr : ∀ g, row = some g → g < base) : OW T base w' v cs := by
  refine h.kept hg ?_
  cases hv : v.ownBlock with
  | none => exact .inl rfl
  | some g =>
    refine .inr fun e => ?_
    have := (h.block g hv).1
    have := hr g e.symm
    omega
theorem SB.grown {row : Option Nat} {B : Nat} (h : SB w v cs) (hlow : ∀ g, v.ownBlock = some g → g < B) (hg : w.grownBy w' row) (hr : ∀ g, row = some g → B ≤ g) : SB w' v cs := by
  obtain ⟨ao, c, xs, rfl, h2, h3, h5, h4⟩ := h
  refine ⟨ao, c, xs, rfl, h2, h3, h5, fun i hi => ?_⟩
  obtain ⟨b, off, rfl, e2, e3⟩ := h4 i hi
  have hb : b < B := hlow b rfl
  refine ⟨b, off, rfl, Nat.lt_of_lt_of_le e2 hg.size, hg.cell e3 ?_⟩
  intro e
  have := hr b e.symm
  omega
theorem below_of_grown {B : Nat} {a : World} {row : Option Nat} (h : Below B a w) (hg : w.grownBy w' row) (hB : B ≤ w.heap.size) (hr : ∀ k, row = some k → B ≤ k) : Below B a w' := h.grown hg hB hr
theorem OW.own_ge (h : OW T base w v cs) : ∀ k, v.ownBlock = some k → base ≤ k := fun k hk => (h.block k hk).1
end

/-- What a program says of float32 and of its slices. -/
structure F32s (P : Program) (S T : Nat) : Prop where
  slice : P.underlying S = some (.slice T)
  info : ∃ i, P.info? T = some i ∧ i.zero = some (.float .f32 0) ∧ i.size = 1 ∧ i.bytes = 4

theorem f32s_of {P : Program} {S T : Nat} (h1 : P.underlying S = some (.slice T)) (h2 : (P.info? T).map (fun i => (i.zero, i.size, i.bytes)) = some (some (.float .f32 0), 1, 4)) : F32s P S T := ⟨h1, info_parts h2⟩

/-- append of one number that has just been put into a new block. -/
theorem wpList_app1 {P : Program} {S T : Nat} (F : F32s P S T) {ops : Array Oper} {Q : Exit → Act → World → Prop} {a : Act} {w : World} {rest : List Oper} {dst : Option Tmp} {s x : Operand} {type : TypeId} {pos : String} {after : Array Edge}
    (base : Nat) (v : Value) (cs : List Nat) (hs : a.eval s = v) (hown : OW T base w v cs) (b r : Nat) (hx : a.eval x = .slice (some ⟨b, 0, none⟩) 1 1) (hc : w.cell? ⟨b, 0, none⟩ = some (.float .f32 r)) (hr : r < 4294967296)
    (hl : cs.length < 1099511627776) (hbase : base ≤ w.heap.size)
    (h : ∀ v' w', OW T base w' v' (cs ++ [cn .f32 r]) → w.grownBy w' v.ownBlock → wpList P ops Q rest (a.put dst v') w') :
    wpList P ops Q ({ dst := dst, op := .call { callee := .builtin .append, args := #[s, x], argTypes := #[S, S] }, type := type, pos := pos, after := after, guard := none } :: rest) a w := by
  obtain ⟨i, hi, hz, hsz, hby⟩ := F.info
  obtain ⟨xs, ho, hcs, hxs⟩ := hown
  have hlen : xs.length = cs.length := by rw [← hcs]; simp
  refine wpList_append_own (P := P) w rfl s x S rfl base T i (.float .f32 0) 1 4 F.slice hi hz hsz hby rfl (by decide) v xs.length _ hs ho ⟨b, 0, none⟩ 1 1 [.float .f32 r] hx rfl ?_ ?_ ?_ ?_ hbase ?_
  · intro j u hu
    cases j with
    | zero => simp only [List.getElem?_cons_zero, Option.some.injEq] at hu; subst hu; simpa [Addr.add] using hc
    | succ j => simp at hu
  · intro u hu
    simp only [List.mem_cons, List.not_mem_nil, or_false] at hu
    subst hu; rfl
  · have : maxLen = 9223372036854775807 := rfl
    omega
  · omega
  · intro v' w' h1 h2 _
    refine h v' w' ⟨xs ++ [r], ?_, by simp [hcs], ?_⟩ h2
    · simpa using h1
    · intro y hy
      rcases List.mem_append.1 hy with hy | hy
      · exact hxs y hy
      · simp only [List.mem_cons, List.not_mem_nil, or_false] at hy
        subst hy; exact hr

/-- The same as a step of a region that draws its order. -/
theorem step_app1 {P : Program} {S T : Nat} (F : F32s P S T) {ops : Array Oper} {Q : Exit → Act → World → Prop} {a : Act} {w : World} {K : Act → World → Prop} {E : Prop} {dst : Option Tmp} {s x : Operand} {type : TypeId} {pos : String} {after : Array Edge}
    (base : Nat) (v : Value) (cs : List Nat) (hs : a.eval s = v) (hown : OW T base w v cs) (b r : Nat) (hx : a.eval x = .slice (some ⟨b, 0, none⟩) 1 1) (hc : w.cell? ⟨b, 0, none⟩ = some (.float .f32 r)) (hr : r < 4294967296)
    (hl : cs.length < 1099511627776) (hbase : base ≤ w.heap.size)
    (h : ∀ v' w', OW T base w' v' (cs ++ [cn .f32 r]) → w.grownBy w' v.ownBlock → K (a.put dst v') w') :
    if Region.wanted { dst := dst, op := .call { callee := .builtin .append, args := #[s, x], argTypes := #[S, S] }, type := type, pos := pos, after := after, guard := none } (yielded ops a.tmps) = true then
      Oper.wp P { dst := dst, op := .call { callee := .builtin .append, args := #[s, x], argTypes := #[S, S] }, type := type, pos := pos, after := after, guard := none } a w K Q else E := by
  rw [if_pos (by simp [Region.wanted])]
  obtain ⟨i, hi, hz, hsz, hby⟩ := F.info
  obtain ⟨xs, ho, hcs, hxs⟩ := hown
  have hlen : xs.length = cs.length := by rw [← hcs]; simp
  refine wp_append_own w s x S rfl base T i (.float .f32 0) 1 4 F.slice hi hz hsz hby rfl (by decide) v xs.length _ hs ho ⟨b, 0, none⟩ 1 1 [.float .f32 r] hx rfl ?_ ?_ ?_ ?_ hbase ?_
  · intro j u hu
    cases j with
    | zero => simp only [List.getElem?_cons_zero, Option.some.injEq] at hu; subst hu; simpa [Addr.add] using hc
    | succ j => simp at hu
  · intro u hu
    simp only [List.mem_cons, List.not_mem_nil, or_false] at hu
    subst hu; rfl
  · have : maxLen = 9223372036854775807 := rfl
    omega
  · omega
  · intro v' w' h1 h2 _
    refine h v' w' ⟨xs ++ [r], ?_, by simp [hcs], ?_⟩ h2
    · simpa using h1
    · intro y hy
      rcases List.mem_append.1 hy with hy | hy
      · exact hxs y hy
      · simp only [List.mem_cons, List.not_mem_nil, or_false] at hy
        subst hy; exact hr

/-- make([]float32, n). -/
theorem wpList_make32 {P : Program} {S T : Nat} (F : F32s P S T) {ops : Array Oper} {Q : Exit → Act → World → Prop} {a : Act} {w : World} {rest : List Oper} {dst : Option Tmp} {l c : Operand} {type : TypeId} {pos : String} {after : Array Edge}
    (n : Nat) (hl : a.eval l = .int .i64 (n : Int)) (hc : a.eval c = .int .i64 (n : Int)) (hn : n < 1099511627776)
    (h : ∀ w', OW T w.heap.size w' (.slice (some ⟨w.heap.size, 0, none⟩) n n) (List.replicate n 0) → w.grownBy w' none → wpList P ops Q rest (a.put dst (.slice (some ⟨w.heap.size, 0, none⟩) n n)) w') :
    wpList P ops Q ({ dst := dst, op := .makeSlice S l c, type := type, pos := pos, after := after, guard := none } :: rest) a w := by
  obtain ⟨i, hi, hz, hsz, hby⟩ := F.info
  refine wpList_make_full (P := P) w rfl l c S rfl w.heap.size T i (.float .f32 0) 1 F.slice hi hz hsz .i64 .i64 _ _ n hl hc rfl rfl (by rw [hby]; omega) (by have : maxLen = 9223372036854775807 := rfl; omega) (Nat.le_refl _) ?_
  intro w' h1 h2
  refine h w' ⟨List.replicate n 0, ?_, by simp [cn0], ?_⟩ h2
  · have e : (madeCells (Value.float .f32 0).cells (n * 1)).toList = (List.replicate n 0).map (Value.float .f32) := by
      rw [Nat.mul_one]
      show (madeCells #[Value.float .f32 0] n).toList = _
      rw [toList_madeCells_one]; simp
    rw [e] at h1
    simpa using h1
  · intro x hx
    have := (List.mem_replicate.1 hx).2
    omega

/-- A slice of the call's own at which something is stored. -/
theorem OW.at_ {T base : Nat} {w : World} {v : Value} {cs : List Nat} (h : OW T base w v cs) {k : Nat} (hk : k < cs.length) :
    ∃ g cap, v = .slice (some ⟨g, 0, none⟩) cs.length cap ∧ base ≤ g ∧ g < w.heap.size ∧ (∃ u, w.cell? ⟨g, k, none⟩ = some u) ∧ w.frozen? ⟨g, k, none⟩ = false ∧
      ∀ r, r < 4294967296 → OW T base (w.setCell ⟨g, k, none⟩ (.float .f32 r)) v (cs.set k (cn .f32 r)) ∧ w.grownBy (w.setCell ⟨g, k, none⟩ (.float .f32 r)) (some g) := by
  obtain ⟨xs, ho, hcs, hx⟩ := h
  have hlen : xs.length = cs.length := by rw [← hcs]; simp
  rcases ho.2 with ⟨rfl, h0⟩ | ⟨g, cap, cur, rfl, hb, hg, hn, hm, hs, ht⟩
  · omega
  · refine ⟨g, cap, by rw [hlen], hb, (ho.lt g rfl).2, ?_, ho.frozenAt k, fun r hr => ?_⟩
    · rw [ho.cellAt k (by omega)]
      exact ⟨_, by rw [List.getElem?_eq_getElem (by simpa using (by omega : k < xs.length))]⟩
    · obtain ⟨h1, h2⟩ := ho.stored k (.float .f32 r)
      refine ⟨⟨xs.set k r, ?_, by rw [← hcs, List.map_set], ?_⟩, h2⟩
      · simpa [List.map_set] using h1
      · intro y hy
        rcases List.mem_or_eq_of_mem_set hy with hy | rfl
        · exact hx y hy
        · exact hr

/-- Numbers and whether there are some. -/
def given (cs : List Nat) : List Nat × Bool := (if allFin cs then cs else [], allFin cs)
/-- A slice of the call's own and a bool are returned. -/
def LB (T base : Nat) (w : World) (e : Ending) (q : List Nat × Bool) : Prop := ∃ v b, e = .returned (.tuple #[v, .bool b]) ∧ OW T base w v q.1 ∧ b = q.2
theorem LB.no (T base : Nat) (w : World) {q : List Nat × Bool} (hq : q = ([], false)) : LB T base w (.returned (.tuple #[.slice none 0 0, .bool false])) q := by
  subst hq; exact ⟨_, _, rfl, OW.nil T base w, rfl⟩
/-- The same slice is returned if its numbers are finite. -/
def GV (v : Value) (cs : List Nat) (e : Ending) : Prop := ∃ u b, e = .returned (.tuple #[u, .bool b]) ∧ u = (if allFin cs then v else .slice none 0 0) ∧ b = allFin cs
theorem LB.given {T base : Nat} {w : World} {v u : Value} {b : Bool} {cs : List Nat} (h : OW T base w v cs) (hu : u = (if allFin cs then v else .slice none 0 0)) (hb : b = allFin cs) {q : List Nat × Bool} (hq : q = Go.Proofs.Ytkkomajokdlkeaa.given cs) : LB T base w (.returned (.tuple #[u, .bool b])) q := by
  subst hq; subst hu; subst hb
  refine ⟨_, _, rfl, ?_, rfl⟩
  unfold Go.Proofs.Ytkkomajokdlkeaa.given
  split
  · exact h
  · exact OW.nil T base w

theorem bcellG {N : Nat} {W w1 : World} {row : Option Nat} (hg : W.grownBy w1 row) (hN : N ≤ W.heap.size) (hr : ∀ g, row = some g → N ≤ g) : (∀ b o, b < N → w1.cell? ⟨b, o, none⟩ = W.cell? ⟨b, o, none⟩) ∧ (∀ b o, b < N → w1.frozen? ⟨b, o, none⟩ = W.frozen? ⟨b, o, none⟩) := by
  have h : ∀ b, b < N → w1.heap[b]? = W.heap[b]? := fun b hb => hg.block b (by omega) (fun e => by have := hr b e.symm; omega)
  exact ⟨fun b o hb => World.cell?_of_block (a := ⟨b, o, none⟩) (h b hb), fun b o hb => World.frozen?_of_block (a := ⟨b, o, none⟩) (h b hb)⟩
theorem below_grown {B : Nat} {W w1 : World} {row : Option Nat} (hg : W.grownBy w1 row) (hN : B ≤ W.heap.size) (hr : ∀ g, row = some g → B ≤ g) : Below B W w1 := (Below.refl B W).grown hg hN hr
theorem OW.low {T base B : Nat} {w : World} {v : Value} {cs : List Nat} (h : OW T base w v cs) (hB : w.heap.size ≤ B) : ∀ g, v.ownBlock = some g → g < B := fun g hg => Nat.lt_of_lt_of_le (h.block g hg).2 hB

theorem OW.grown_low {T base B : Nat} {w w' : World} {v : Value} {cs : List Nat} {row : Option Nat} (h : OW T base w v cs) (hlow : ∀ g, v.ownBlock = some g → g < B) (hg : w.grownBy w' row) (hr : ∀ g, row = some g → B ≤ g) : OW T base w' v cs := by
  refine h.kept hg ?_
  cases hv : v.ownBlock with
  | none => exact .inl rfl
  | some g =>
    refine .inr fun e => ?_
    have := hlow g hv
    have := hr g e.symm
    omega
theorem grown_drewN {w w' : World} {n : Nat} {row : Option Nat} (hg : (w.drewN n).grownBy w' row) : w.grownBy w' row := ⟨hg.os, hg.tape, hg.output, hg.size, hg.block⟩
theorem below_undrew {w w' : World} {n : Nat} (h : Below (w.drewN n).heap.size (w.drewN n) w') : Below w.heap.size w w' := ⟨h.os, h.tape, h.output, h.size, h.block⟩

end Go.Proofs.Ytkkomajokdlkeaa

namespace Go.Proofs.Ytkkomajokdlkeaa
set_option linter.unusedSimpArgs false
set_option linter.unusedVariables false
set_option maxRecDepth 100000
set_option maxHeartbeats 4000000
open Go.RowKit

/-- All blocks are as they were, but those from lo on and below hi. -/
structure Wi (lo hi : Nat) (w w' : World) : Prop where
  os : w'.os = w.os
  tape : w'.tape = w.tape
  output : w'.output = w.output
  size : w.heap.size ≤ w'.heap.size
  block : ∀ k, k < w.heap.size → (k < lo ∨ hi ≤ k) → w'.heap[k]? = w.heap[k]?
theorem Wi.of_below {w w' : World} (h : Below w.heap.size w w') : Wi 0 0 w w' := ⟨h.os, h.tape, h.output, h.size, fun k hk _ => h.block k hk⟩
theorem Wi.below {lo hi B : Nat} {w w' : World} (h : Wi lo hi w w') (h1 : B ≤ w.heap.size) (h2 : B ≤ lo ∨ hi ≤ 0) : Below B w w' :=
  ⟨h.os, h.tape, h.output, h.size, fun k hk => h.block k (by omega) (by omega)⟩
theorem Wi.of_grown {lo hi : Nat} {w w' : World} {row : Option Nat} (h : w.grownBy w' row) (hr : ∀ g, row = some g → lo ≤ g ∧ g < hi) : Wi lo hi w w' :=
  ⟨h.os, h.tape, h.output, h.size, fun k hk hx => h.block k hk (fun e => by have := hr k e.symm; omega)⟩
theorem Wi.refl (lo hi : Nat) (w : World) : Wi lo hi w w := ⟨rfl, rfl, rfl, Nat.le_refl _, fun _ _ _ => rfl⟩
theorem Wi.trans {lo hi : Nat} {w w1 w2 : World} (h : Wi lo hi w w1) (h' : Wi lo hi w1 w2) : Wi lo hi w w2 :=
  ⟨h'.os.trans h.os, h'.tape.trans h.tape, h'.output.trans h.output, Nat.le_trans h.size h'.size, fun k hk hx => (h'.block k (Nat.lt_of_lt_of_le hk h.size) hx).trans (h.block k hk hx)⟩
theorem Wi.mono {lo hi lo' hi' : Nat} {w w' : World} (h : Wi lo hi w w') (h1 : lo' ≤ lo) (h2 : hi ≤ hi') : Wi lo' hi' w w' :=
  ⟨h.os, h.tape, h.output, h.size, fun k hk hx => h.block k hk (by omega)⟩
theorem Dr.wi {w w' : World} (h : Dr w w') : Wi 0 0 w w' := Wi.of_below (h.below _)

theorem own_wi {e size lo hi a b : Nat} {w w' : World} {v : Value} {n : Nat} {xs : List Value} (h : w.ownsRow lo e size v n xs) (hh : ∀ g, v.ownBlock = some g → g < hi) (hw : Wi a b w w') (hd : b ≤ lo ∨ hi ≤ a) : w'.ownsRow lo e size v n xs := by
  refine ⟨h.1, ?_⟩
  rcases h.2 with hn | ⟨g, cap, cur, rfl, hb, hgg, rest⟩
  · exact .inl hn
  · have hg := hh g rfl
    refine .inr ⟨g, cap, cur, rfl, hb, ?_, rest⟩
    rw [hw.block g (Array.getElem?_eq_some_iff.1 hgg).1 (by omega)]
    exact hgg

/-- A slice of float32 numbers in blocks from lo on and below hi. -/
def FW (T lo hi : Nat) (w : World) (v : Value) (cs : List Nat) : Prop := OW T lo w v cs ∧ ∀ g, v.ownBlock = some g → g < hi
theorem FW.of {T lo : Nat} {w : World} {v : Value} {cs : List Nat} (h : OW T lo w v cs) : FW T lo w.heap.size w v cs := ⟨h, fun g hg => (h.block g hg).2⟩
theorem FW.keep {T lo hi a b : Nat} {w w' : World} {v : Value} {cs : List Nat} (h : FW T lo hi w v cs) (hw : Wi a b w w') (hd : b ≤ lo ∨ hi ≤ a) : FW T lo hi w' v cs := by
  obtain ⟨⟨xs, ho, r⟩, hh⟩ := h
  exact ⟨⟨xs, own_wi ho hh hw hd, r⟩, hh⟩
theorem FW.sl {T lo hi : Nat} {w : World} {v : Value} {cs : List Nat} (h : FW T lo hi w v cs) : SL w v cs := h.1.sb.sl
theorem FW.sb {T lo hi : Nat} {w : World} {v : Value} {cs : List Nat} (h : FW T lo hi w v cs) : SB w v cs := h.1.sb

/-- What is followed is kept below a number. -/
theorem SB.below {w w' : World} {v : Value} {cs : List Nat} {B : Nat} (h : SB w v cs) (hb : Below B w w') (hB : w.heap.size ≤ B) : SB w' v cs := h.keep (hb.mono hB)

end Go.Proofs.Ytkkomajokdlkeaa

namespace Go.Proofs.Ytkkomajokdlkeaa
set_option linter.unusedSimpArgs false
set_option linter.unusedVariables false
set_option maxRecDepth 100000
set_option maxHeartbeats 4000000
open Go.RowKit

/-- A slice of one-cell elements in memory of the call's own, from block lo on. -/
def GO {α : Type} (inj : α → Value) (T lo : Nat) (w : World) (v : Value) (xs : List α) : Prop := w.ownsRow lo T 1 v xs.length (xs.map inj)
/-- .. and below hi. -/
def GW {α : Type} (inj : α → Value) (T lo hi : Nat) (w : World) (v : Value) (xs : List α) : Prop := GO inj T lo w v xs ∧ ∀ g, v.ownBlock = some g → g < hi
/-- Such a slice is read. -/
def GL {α : Type} (inj : α → Value) (w : World) (v : Value) (xs : List α) : Prop :=
  ∃ (ao : Option Addr) (c : Nat), v = .slice ao xs.length c ∧ (xs.length ≤ c ∧ c ≤ 9223372036854775807) ∧
    ∀ i (h : i < xs.length), ∃ b off, ao = some ⟨b, off, none⟩ ∧ b < w.heap.size ∧ w.cell? ⟨b, off + i, none⟩ = some (inj xs[i])

section
variable {α : Type} {inj : α → Value} {T lo hi : Nat} {w w' : World} {v : Value} {xs : List α}
theorem GL.keep (h : GL inj w v xs) (hb : Below w.heap.size w w') : GL inj w' v xs := by
  obtain ⟨ao, c, h1, h3, h4⟩ := h
  refine ⟨ao, c, h1, h3, fun i hi => ?_⟩
  obtain ⟨b, off, e1, e2, e3⟩ := h4 i hi
  exact ⟨b, off, e1, Nat.lt_of_lt_of_le e2 hb.size, by rw [hb.cell (p := ⟨b, off + i, none⟩) e2]; exact e3⟩
theorem GL.below {B : Nat} (h : GL inj w v xs) (hb : Below B w w') (hB : w.heap.size ≤ B) : GL inj w' v xs := h.keep (hb.mono hB)
theorem GL.drewN (h : GL inj w v xs) (n : Nat) : GL inj (w.drewN n) v xs := h
theorem GL.drew (h : GL inj w v xs) : GL inj w.drew v xs := h
theorem GL.slice (h : GL inj w v xs) : ∃ ao c, v = .slice ao xs.length c ∧ xs.length ≤ c ∧ c ≤ 9223372036854775807 := by
  obtain ⟨ao, c, h1, h3, _⟩ := h
  exact ⟨ao, c, h1, h3⟩
theorem GL.nil (w : World) : GL inj w (.slice none 0 0) ([] : List α) := ⟨none, 0, rfl, by simp, fun i hi => by cases hi⟩
theorem GO.gl (h : GO inj T lo w v xs) : GL inj w v xs := by
  rcases h.2 with ⟨rfl, h0⟩ | ⟨g, cap, cur, rfl, hb, hg, hn, hm, hs, ht⟩
  · have : xs = [] := List.eq_nil_of_length_eq_zero h0
    subst this
    exact GL.nil w
  · refine ⟨some ⟨g, 0, none⟩, cap, rfl, ⟨hn, ?_⟩, fun i hi => ⟨g, 0, rfl, ?_, ?_⟩⟩
    · have : maxLen = 9223372036854775807 := rfl
      omega
    · rcases Nat.lt_or_ge g w.heap.size with h' | h'
      · exact h'
      · rw [Array.getElem?_eq_none h'] at hg; cases hg
    · rw [Nat.zero_add, World.ownsRow.cellAt h i (by omega)]
      simp [hi]
theorem GO.kept {row : Option Nat} (h : GO inj T lo w v xs) (hg : w.grownBy w' row) (hne : v.ownBlock = none ∨ v.ownBlock ≠ row) : GO inj T lo w' v xs := World.ownsRow.kept h hg hne
theorem GO.keep (h : GO inj T lo w v xs) (hb : Below w.heap.size w w') : GO inj T lo w' v xs := h.kept (grown_of_below hb none) (by cases v.ownBlock <;> simp)
theorem GO.drewN (h : GO inj T lo w v xs) (n : Nat) : GO inj T lo (w.drewN n) v xs := h
theorem GO.drew (h : GO inj T lo w v xs) : GO inj T lo w.drew v xs := h
theorem GO.alloc (h : GO inj T lo w v xs) (o : Obj) : GO inj T lo (w.alloc o) v xs := World.ownsRow.alloc h o
theorem GO.nil (T lo : Nat) (w : World) : GO inj T lo w (.slice none 0 0) [] := World.ownsRow_nil w lo T 1
theorem GO.empty (T : Nat) (w : World) {n : Nat} (hn : n = w.heap.size) {lo : Nat} (hb : lo ≤ w.heap.size) : GO inj T lo (w.alloc (.cells #[] T)) (.slice (some ⟨n, 0, none⟩) 0 0) [] := by
  subst hn
  have := World.ownsRow_lit (e := T) (size := 1) w #[] 0 hb (by simp [maxLen]) rfl
  simpa [GO] using this
theorem GO.block (h : GO inj T lo w v xs) : ∀ g, v.ownBlock = some g → lo ≤ g ∧ g < w.heap.size := World.ownsRow.lt h
theorem GO.own_ge (h : GO inj T lo w v xs) : ∀ k, v.ownBlock = some k → lo ≤ k := fun k hk => (h.block k hk).1
theorem GO.down {lo' : Nat} (h : GO inj T lo w v xs) (hb : lo' ≤ lo) : GO inj T lo' w v xs := by
  refine ⟨h.1, ?_⟩
  rcases h.2 with h0 | ⟨g, cap, cur, hv, hg, rest⟩
  · exact .inl h0
  · exact .inr ⟨g, cap, cur, hv, Nat.le_trans hb hg, rest⟩
theorem GO.slice (h : GO inj T lo w v xs) : ∃ ao c, v = .slice ao xs.length c ∧ xs.length ≤ c ∧ c ≤ 9223372036854775807 := h.gl.slice
theorem GO.other {β : Type} {inj' : β → Value} {T' lo' : Nat} {v' : Value} {ys : List β} {row : Option Nat} (h : GO inj T lo w v xs) (hg : w.grownBy w' row) (hr : ∀ g, row = some g → v.ownBlock ≠ some g) : GO inj T lo w' v xs := by
  refine h.kept hg ?_
  cases hv : v.ownBlock with
  | none => exact .inl rfl
  | some g => exact .inr fun e => hr g e.symm hv
theorem GO.grown_low {B : Nat} {row : Option Nat} (h : GO inj T lo w v xs) (hlow : ∀ g, v.ownBlock = some g → g < B) (hg : w.grownBy w' row) (hr : ∀ g, row = some g → B ≤ g) : GO inj T lo w' v xs := by
  refine h.kept hg ?_
  cases hv : v.ownBlock with
  | none => exact .inl rfl
  | some g =>
    refine .inr fun e => ?_
    have := hlow g hv
    have := hr g e.symm
    omega
theorem GW.of (h : GO inj T lo w v xs) : GW inj T lo w.heap.size w v xs := ⟨h, fun g hg => (h.block g hg).2⟩
theorem GW.keep {a b : Nat} (h : GW inj T lo hi w v xs) (hw : Wi a b w w') (hd : b ≤ lo ∨ hi ≤ a) : GW inj T lo hi w' v xs := ⟨own_wi h.1 h.2 hw hd, h.2⟩
theorem GW.gl (h : GW inj T lo hi w v xs) : GL inj w v xs := h.1.gl
end

theorem quiet_dr {P : Program} {f : FuncId} {args : Array Value} {w : World} {n : Nat} {v : Value}
    (h : Calls P f args (w.drewN n) fun e w' => e = .returned v ∧ Dr (w.drewN n) w') : Calls P f args (w.drewN n) fun e w'' => e = .returned v ∧ ∃ m, w'' = w.drewN m :=
  h.mono fun _ _ ⟨he, m, hm⟩ => ⟨he, n + m, by rw [← hm, World.drewN_drewN]⟩
theorem quiet_dr2 {P : Program} {f : FuncId} {args : Array Value} {w : World} {d n : Nat} {v : Value}
    (h : Calls P f args (w.drewN (d + n)) fun e w' => e = .returned v ∧ Dr (w.drewN (d + n)) w') : Calls P f args (w.drewN (d + n)) fun e w'' => e = .returned v ∧ ∃ m, w'' = w.drewN (d + m) :=
  h.mono fun _ _ ⟨he, m, hm⟩ => ⟨he, n + m, by rw [← hm, World.drewN_drewN, Nat.add_assoc]⟩

/-- What a program says of a one-cell type and of its slices. -/
structure OneC (P : Program) (S T : Nat) (z : Value) (by_ : Nat) : Prop where
  slice : P.underlying S = some (.slice T)
  info : ∃ i, P.info? T = some i ∧ i.zero = some z ∧ i.size = 1 ∧ i.bytes = by_
  one : z.cells = #[z]
  small : by_ ≤ 32
theorem oneC_of {P : Program} {S T : Nat} {z : Value} {by_ : Nat} (h1 : P.underlying S = some (.slice T)) (h2 : (P.info? T).map (fun i => (i.zero, i.size, i.bytes)) = some (some z, 1, by_)) (h3 : z.cells = #[z]) (h4 : by_ ≤ 32) : OneC P S T z by_ := ⟨h1, info_parts h2, h3, h4⟩

section
variable {α : Type} {inj : α → Value} {P : Program} {S T : Nat} {z : Value} {by_ : Nat}
/-- append of numbers that have just been put into a new block. -/
theorem wpList_gapp (F : OneC P S T z by_) (hinj : ∀ x, (inj x).oneCell' = true) {ops : Array Oper} {Q : Exit → Act → World → Prop} {a : Act} {w : World} {rest : List Oper} {dst : Option Tmp} {s x : Operand} {type : TypeId} {pos : String} {after : Array Edge}
    (lo : Nat) (v : Value) (xs : List α) (hs : a.eval s = v) (hown : GO inj T lo w v xs) (ys : List α) (b m : Nat) (hm : m = ys.length) (hx : a.eval x = .slice (some ⟨b, 0, none⟩) m m) (hc : ∀ i u, ys[i]? = some u → w.cell? ⟨b, i, none⟩ = some (inj u))
    (hl : xs.length + ys.length < 1099511627776) (hbase : lo ≤ w.heap.size)
    (h : ∀ v' w', GO inj T lo w' v' (xs ++ ys) → w.grownBy w' v.ownBlock → wpList P ops Q rest (a.put dst v') w') :
    wpList P ops Q ({ dst := dst, op := .call { callee := .builtin .append, args := #[s, x], argTypes := #[S, S] }, type := type, pos := pos, after := after, guard := none } :: rest) a w := by
  obtain ⟨i, hi, hz, hsz, hby⟩ := F.info
  have h16 := F.small
  subst hm
  refine wpList_append_own (P := P) w rfl s x S rfl lo T i z 1 by_ F.slice hi hz hsz hby (by rw [F.one]; rfl) (by decide) v xs.length _ hs hown ⟨b, 0, none⟩ ys.length ys.length (ys.map inj) hx (by simp) ?_ ?_ ?_ ?_ hbase ?_
  · intro j u hu
    rw [List.getElem?_map] at hu
    obtain ⟨y, hy, rfl⟩ := Option.map_eq_some_iff.1 hu
    rw [Addr.add_lit, Nat.zero_add]
    exact hc j y hy
  · intro u hu
    obtain ⟨y, _, rfl⟩ := List.mem_map.1 hu
    exact hinj y
  · have : maxLen = 9223372036854775807 := rfl
    omega
  · have : (xs.length + ys.length) * by_ ≤ 1099511627776 * 32 := Nat.mul_le_mul (by omega) h16
    omega
  · intro v' w' h1 h2 _
    refine h v' w' ?_ h2
    unfold GO
    rw [List.length_append, List.map_append]
    exact h1
theorem step_gapp (F : OneC P S T z by_) (hinj : ∀ x, (inj x).oneCell' = true) {ops : Array Oper} {Q : Exit → Act → World → Prop} {a : Act} {w : World} {K : Act → World → Prop} {E : Prop} {dst : Option Tmp} {s x : Operand} {type : TypeId} {pos : String} {after : Array Edge}
    (lo : Nat) (v : Value) (xs : List α) (hs : a.eval s = v) (hown : GO inj T lo w v xs) (ys : List α) (b m : Nat) (hm : m = ys.length) (hx : a.eval x = .slice (some ⟨b, 0, none⟩) m m) (hc : ∀ i u, ys[i]? = some u → w.cell? ⟨b, i, none⟩ = some (inj u))
    (hl : xs.length + ys.length < 1099511627776) (hbase : lo ≤ w.heap.size)
    (h : ∀ v' w', GO inj T lo w' v' (xs ++ ys) → w.grownBy w' v.ownBlock → K (a.put dst v') w') :
    if Region.wanted { dst := dst, op := .call { callee := .builtin .append, args := #[s, x], argTypes := #[S, S] }, type := type, pos := pos, after := after, guard := none } (yielded ops a.tmps) = true then
      Oper.wp P { dst := dst, op := .call { callee := .builtin .append, args := #[s, x], argTypes := #[S, S] }, type := type, pos := pos, after := after, guard := none } a w K Q else E := by
  rw [if_pos (by simp [Region.wanted])]
  obtain ⟨i, hi, hz, hsz, hby⟩ := F.info
  have h16 := F.small
  subst hm
  refine wp_append_own w s x S rfl lo T i z 1 by_ F.slice hi hz hsz hby (by rw [F.one]; rfl) (by decide) v xs.length _ hs hown ⟨b, 0, none⟩ ys.length ys.length (ys.map inj) hx (by simp) ?_ ?_ ?_ ?_ hbase ?_
  · intro j u hu
    rw [List.getElem?_map] at hu
    obtain ⟨y, hy, rfl⟩ := Option.map_eq_some_iff.1 hu
    rw [Addr.add_lit, Nat.zero_add]
    exact hc j y hy
  · intro u hu
    obtain ⟨y, _, rfl⟩ := List.mem_map.1 hu
    exact hinj y
  · have : maxLen = 9223372036854775807 := rfl
    omega
  · have : (xs.length + ys.length) * by_ ≤ 1099511627776 * 32 := Nat.mul_le_mul (by omega) h16
    omega
  · intro v' w' h1 h2 _
    refine h v' w' ?_ h2
    unfold GO
    rw [List.length_append, List.map_append]
    exact h1
/-- make([]T, n). -/
theorem wpList_gmake (F : OneC P S T z by_) (x0 : α) (hz0 : inj x0 = z) {ops : Array Oper} {Q : Exit → Act → World → Prop} {a : Act} {w : World} {rest : List Oper} {dst : Option Tmp} {l c : Operand} {type : TypeId} {pos : String} {after : Array Edge}
    (n : Nat) (hl : a.eval l = .int .i64 (n : Int)) (hc : a.eval c = .int .i64 (n : Int)) (hn : n < 1099511627776)
    (h : ∀ w', GO inj T w.heap.size w' (.slice (some ⟨w.heap.size, 0, none⟩) n n) (List.replicate n x0) → w.grownBy w' none → wpList P ops Q rest (a.put dst (.slice (some ⟨w.heap.size, 0, none⟩) n n)) w') :
    wpList P ops Q ({ dst := dst, op := .makeSlice S l c, type := type, pos := pos, after := after, guard := none } :: rest) a w := by
  obtain ⟨i, hi, hz, hsz, hby⟩ := F.info
  have h16 := F.small
  refine wpList_make_full (P := P) w rfl l c S rfl w.heap.size T i z 1 F.slice hi hz hsz .i64 .i64 _ _ n hl hc rfl rfl ?_ (by have : maxLen = 9223372036854775807 := rfl; omega) (Nat.le_refl _) ?_
  · have : n * by_ ≤ 1099511627776 * 32 := Nat.mul_le_mul (by omega) h16
    rw [hby, Nat.mul_comm]; omega
  · intro w' h1 h2
    refine h w' ?_ h2
    have e : (madeCells z.cells (n * 1)).toList = (List.replicate n x0).map inj := by
      rw [Nat.mul_one, F.one, toList_madeCells_one]
      simp [hz0]
    rw [e] at h1
    unfold GO
    simpa using h1
/-- A slice of the call's own at which something is stored. -/
theorem GO.at_ {lo : Nat} {w : World} {v : Value} {xs : List α} (h : GO inj T lo w v xs) {k : Nat} (hk : k < xs.length) :
    ∃ g cap, v = .slice (some ⟨g, 0, none⟩) xs.length cap ∧ lo ≤ g ∧ g < w.heap.size ∧ w.cell? ⟨g, k, none⟩ = some (inj xs[k]) ∧ w.frozen? ⟨g, k, none⟩ = false ∧
      ∀ y, GO inj T lo (w.setCell ⟨g, k, none⟩ (inj y)) v (xs.set k y) ∧ w.grownBy (w.setCell ⟨g, k, none⟩ (inj y)) (some g) := by
  have ho : w.ownsRow lo T 1 v xs.length (xs.map inj) := h
  rcases ho.2 with ⟨rfl, h0⟩ | ⟨g, cap, cur, rfl, hb, hg, hn, hm, hs, ht⟩
  · omega
  · refine ⟨g, cap, rfl, hb, (ho.lt g rfl).2, ?_, ho.frozenAt k, fun y => ?_⟩
    · rw [ho.cellAt k (by omega)]
      simp [hk]
    · obtain ⟨h1, h2⟩ := ho.stored k (inj y)
      refine ⟨?_, h2⟩
      unfold GO
      rw [List.length_set, List.map_set]
      exact h1
end

end Go.Proofs.Ytkkomajokdlkeaa
