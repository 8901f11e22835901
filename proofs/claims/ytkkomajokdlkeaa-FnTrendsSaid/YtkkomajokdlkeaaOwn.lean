/- Slices of numbers that a call makes itself: made, appended to, stored into. -/
import Derived.Test.YtkkomajokdlkeaaMem
namespace Go.Proofs.Ytkkomajokdlkeaa
set_option linter.unusedSimpArgs false
set_option linter.unusedVariables false
set_option maxRecDepth 100000
set_option maxHeartbeats 4000000
open Go.RowKit

/-- A slice of float32 numbers in memory of the call's own (from block 'base' on); T: the number of the type float32. -/
def OW (T base : Nat) (w : World) (v : Value) (cs : List Nat) : Prop :=
  ∃ xs : List Nat, w.ownsRow base T 1 v xs.length (xs.map (Value.float .f32)) ∧ xs.map (cn .f32) = cs ∧ ∀ x ∈ xs, x < 4294967296

section
variable {T base : Nat} {w w' : World} {v : Value} {cs : List Nat}

theorem OW.sb (h : OW T base w v cs) : SB w v cs := by
  obtain ⟨xs, ho, hc, hx⟩ := h
  rcases ho.2 with ⟨rfl, h0⟩ | ⟨g, cap, cur, rfl, hb, hg, hn, hm, hs, ht⟩
  · have : xs = [] := List.eq_nil_of_length_eq_zero h0
    subst this
    exact ⟨none, 0, [], rfl, hc, by simp, hx, fun i hi => by cases hi⟩
  · refine ⟨some ⟨g, 0, none⟩, cap, xs, rfl, hc, ⟨hn, ?_⟩, hx, fun i hi => ⟨g, 0, rfl, ?_, ?_⟩⟩
    · have : maxLen = 9223372036854775807 := rfl
      omega
    · rcases Nat.lt_or_ge g w.heap.size with h' | h'
      · exact h'
      · rw [Array.getElem?_eq_none h'] at hg; cases hg
    · rw [Nat.zero_add, ho.cellAt i (by omega)]
      simp [hi]
theorem OW.kept {row : Option Nat} (h : OW T base w v cs) (hg : w.grownBy w' row) (hne : v.ownBlock = none ∨ v.ownBlock ≠ row) : OW T base w' v cs := by
  obtain ⟨xs, ho, r⟩ := h
  exact ⟨xs, ho.kept hg hne, r⟩
theorem grown_of_below (hb : Below w.heap.size w w') (row : Option Nat) : w.grownBy w' row := ⟨hb.os, hb.tape, hb.output, hb.size, fun k hk _ => hb.block k hk⟩
theorem OW.keep (h : OW T base w v cs) (hb : Below w.heap.size w w') : OW T base w' v cs :=
  h.kept (grown_of_below hb none) (by cases v.ownBlock <;> simp)
theorem OW.drewN (h : OW T base w v cs) (n : Nat) : OW T base (w.drewN n) v cs := h
theorem OW.drew (h : OW T base w v cs) : OW T base w.drew v cs := h
theorem OW.alloc (h : OW T base w v cs) (o : Obj) : OW T base (w.alloc o) v cs := by
  obtain ⟨xs, ho, r⟩ := h
  exact ⟨xs, ho.alloc o, r⟩
theorem OW.nil (T base : Nat) (w : World) : OW T base w (.slice none 0 0) [] := ⟨[], World.ownsRow_nil w base T 1, rfl, by simp⟩
theorem OW.empty (T : Nat) (w : World) {n : Nat} (hn : n = w.heap.size) {base : Nat} (hb : base ≤ w.heap.size) : OW T base (w.alloc (.cells #[] T)) (.slice (some ⟨n, 0, none⟩) 0 0) [] := by
  subst hn
  exact ⟨[], by simpa using World.ownsRow_lit (e := T) (size := 1) w #[] 0 hb (by simp [maxLen]) rfl, rfl, by simp⟩
theorem OW.block (h : OW T base w v cs) : ∀ g, v.ownBlock = some g → base ≤ g ∧ g < w.heap.size := by
  obtain ⟨xs, ho, _⟩ := h
  exact ho.lt
theorem OW.down {base' : Nat} (h : OW T base w v cs) (hb : base' ≤ base) : OW T base' w v cs := by
  obtain ⟨xs, ho, r⟩ := h
  refine ⟨xs, ⟨ho.1, ?_⟩, r⟩
  rcases ho.2 with h0 | ⟨g, cap, cur, hv, hg, rest⟩
  · exact .inl h0
  · exact .inr ⟨g, cap, cur, hv, Nat.le_trans hb hg, rest⟩
theorem OW.grown_keep {row : Option Nat} (h : OW T base w v cs) (hg : w.grownBy w' row) (hr : ∀ g, row = some g → g < base) : OW T base w' v cs := by
  refine h.kept hg ?_
  cases hv : v.ownBlock with
  | none => exact .inl rfl
  | some g =>
    refine .inr fun e => ?_
    have := (h.block g hv).1
    have := hr g e.symm
    omega
theorem SB.grown {row : Option Nat} {B : Nat} (h : SB w v cs) (hlow : ∀ g, v.ownBlock = some g → g < B) (hg : w.grownBy w' row) (hr : ∀ g, row = some g → B ≤ g) : SB w' v cs := by
  obtain ⟨ao, c, xs, rfl, h2, h3, h5, h4⟩ := h
  refine ⟨ao, c, xs, rfl, h2, h3, h5, fun i hi => ?_⟩
  obtain ⟨b, off, rfl, e2, e3⟩ := h4 i hi
  have hb : b < B := hlow b rfl
  refine ⟨b, off, rfl, Nat.lt_of_lt_of_le e2 hg.size, hg.cell e3 ?_⟩
  intro e
  have := hr b e.symm
  omega
theorem below_of_grown {B : Nat} {a : World} {row : Option Nat} (h : Below B a w) (hg : w.grownBy w' row) (hB : B ≤ w.heap.size) (hr : ∀ k, row = some k → B ≤ k) : Below B a w' := h.grown hg hB hr
theorem OW.own_ge (h : OW T base w v cs) : ∀ k, v.ownBlock = some k → base ≤ k := fun k hk => (h.block k hk).1
end

/-- What a program says of float32 and of its slices. -/
structure F32s (P : Program) (S T : Nat) : Prop where
  slice : P.underlying S = some (.slice T)
  info : ∃ i, P.info? T = some i ∧ i.zero = some (.float .f32 0) ∧ i.size = 1 ∧ i.bytes = 4

theorem f32s_of {P : Program} {S T : Nat} (h1 : P.underlying S = some (.slice T)) (h2 : (P.info? T).map (fun i => (i.zero, i.size, i.bytes)) = some (some (.float .f32 0), 1, 4)) : F32s P S T := ⟨h1, info_parts h2⟩

/-- append of one number that has just been put into a new block. -/
theorem wpList_app1 {P : Program} {S T : Nat} (F : F32s P S T) {ops : Array Oper} {Q : Exit → Act → World → Prop} {a : Act} {w : World} {rest : List Oper} {dst : Option Tmp} {s x : Operand} {type : TypeId} {pos : String} {after : Array Edge}
    (base : Nat) (v : Value) (cs : List Nat) (hs : a.eval s = v) (hown : OW T base w v cs) (b r : Nat) (hx : a.eval x = .slice (some ⟨b, 0, none⟩) 1 1) (hc : w.cell? ⟨b, 0, none⟩ = some (.float .f32 r)) (hr : r < 4294967296)
    (hl : cs.length < 1099511627776) (hbase : base ≤ w.heap.size)
    (h : ∀ v' w', OW T base w' v' (cs ++ [cn .f32 r]) → w.grownBy w' v.ownBlock → wpList P ops Q rest (a.put dst v') w') :
    wpList P ops Q ({ dst := dst, op := .call { callee := .builtin .append, args := #[s, x], argTypes := #[S, S] }, type := type, pos := pos, after := after, guard := none } :: rest) a w := by
  obtain ⟨i, hi, hz, hsz, hby⟩ := F.info
  obtain ⟨xs, ho, hcs, hxs⟩ := hown
  have hlen : xs.length = cs.length := by rw [← hcs]; simp
  refine wpList_append_own (P := P) w rfl s x S rfl base T i (.float .f32 0) 1 4 F.slice hi hz hsz hby rfl (by decide) v xs.length _ hs ho ⟨b, 0, none⟩ 1 1 [.float .f32 r] hx rfl ?_ ?_ ?_ ?_ hbase ?_
  · intro j u hu
    cases j with
    | zero => simp only [List.getElem?_cons_zero, Option.some.injEq] at hu; subst hu; simpa [Addr.add] using hc
    | succ j => simp at hu
  · intro u hu
    simp only [List.mem_cons, List.not_mem_nil, or_false] at hu
    subst hu; rfl
  · have : maxLen = 9223372036854775807 := rfl
    omega
  · omega
  · intro v' w' h1 h2 _
    refine h v' w' ⟨xs ++ [r], ?_, by simp [hcs], ?_⟩ h2
    · simpa using h1
    · intro y hy
      rcases List.mem_append.1 hy with hy | hy
      · exact hxs y hy
      · simp only [List.mem_cons, List.not_mem_nil, or_false] at hy
        subst hy; exact hr

/-- The same as a step of a region that draws its order. -/
theorem step_app1 {P : Program} {S T : Nat} (F : F32s P S T) {ops : Array Oper} {Q : Exit → Act → World → Prop} {a : Act} {w : World} {K : Act → World → Prop} {E : Prop} {dst : Option Tmp} {s x : Operand} {type : TypeId} {pos : String} {after : Array Edge}
    (base : Nat) (v : Value) (cs : List Nat) (hs : a.eval s = v) (hown : OW T base w v cs) (b r : Nat) (hx : a.eval x = .slice (some ⟨b, 0, none⟩) 1 1) (hc : w.cell? ⟨b, 0, none⟩ = some (.float .f32 r)) (hr : r < 4294967296)
    (hl : cs.length < 1099511627776) (hbase : base ≤ w.heap.size)
    (h : ∀ v' w', OW T base w' v' (cs ++ [cn .f32 r]) → w.grownBy w' v.ownBlock → K (a.put dst v') w') :
    if Region.wanted { dst := dst, op := .call { callee := .builtin .append, args := #[s, x], argTypes := #[S, S] }, type := type, pos := pos, after := after, guard := none } (yielded ops a.tmps) = true then
      Oper.wp P { dst := dst, op := .call { callee := .builtin .append, args := #[s, x], argTypes := #[S, S] }, type := type, pos := pos, after := after, guard := none } a w K Q else E := by
  rw [if_pos (by simp [Region.wanted])]
  obtain ⟨i, hi, hz, hsz, hby⟩ := F.info
  obtain ⟨xs, ho, hcs, hxs⟩ := hown
  have hlen : xs.length = cs.length := by rw [← hcs]; simp
  refine wp_append_own w s x S rfl base T i (.float .f32 0) 1 4 F.slice hi hz hsz hby rfl (by decide) v xs.length _ hs ho ⟨b, 0, none⟩ 1 1 [.float .f32 r] hx rfl ?_ ?_ ?_ ?_ hbase ?_
  · intro j u hu
    cases j with
    | zero => simp only [List.getElem?_cons_zero, Option.some.injEq] at hu; subst hu; simpa [Addr.add] using hc
    | succ j => simp at hu
  · intro u hu
    simp only [List.mem_cons, List.not_mem_nil, or_false] at hu
    subst hu; rfl
  · have : maxLen = 9223372036854775807 := rfl
    omega
  · omega
  · intro v' w' h1 h2 _
    refine h v' w' ⟨xs ++ [r], ?_, by simp [hcs], ?_⟩ h2
    · simpa using h1
    · intro y hy
      rcases List.mem_append.1 hy with hy | hy
      · exact hxs y hy
      · simp only [List.mem_cons, List.not_mem_nil, or_false] at hy
        subst hy; exact hr

/-- make([]float32, n). -/
theorem wpList_make32 {P : Program} {S T : Nat} (F : F32s P S T) {ops : Array Oper} {Q : Exit → Act → World → Prop} {a : Act} {w : World} {rest : List Oper} {dst : Option Tmp} {l c : Operand} {type : TypeId} {pos : String} {after : Array Edge}
    (n : Nat) (hl : a.eval l = .int .i64 (n : Int)) (hc : a.eval c = .int .i64 (n : Int)) (hn : n < 1099511627776)
    (h : ∀ w', OW T w.heap.size w' (.slice (some ⟨w.heap.size, 0, none⟩) n n) (List.replicate n 0) → w.grownBy w' none → wpList P ops Q rest (a.put dst (.slice (some ⟨w.heap.size, 0, none⟩) n n)) w') :
    wpList P ops Q ({ dst := dst, op := .makeSlice S l c, type := type, pos := pos, after := after, guard := none } :: rest) a w := by
  obtain ⟨i, hi, hz, hsz, hby⟩ := F.info
  refine wpList_make_full (P := P) w rfl l c S rfl w.heap.size T i (.float .f32 0) 1 F.slice hi hz hsz .i64 .i64 _ _ n hl hc rfl rfl (by rw [hby]; omega) (by have : maxLen = 9223372036854775807 := rfl; omega) (Nat.le_refl _) ?_
  intro w' h1 h2
  refine h w' ⟨List.replicate n 0, ?_, by simp [cn0], ?_⟩ h2
  · have e : (madeCells (Value.float .f32 0).cells (n * 1)).toList = (List.replicate n 0).map (Value.float .f32) := by
      rw [Nat.mul_one]
      show (madeCells #[Value.float .f32 0] n).toList = _
      rw [toList_madeCells_one]; simp
    rw [e] at h1
    simpa using h1
  · intro x hx
    have := (List.mem_replicate.1 hx).2
    omega

/-- A slice of the call's own at which something is stored. -/
theorem OW.at_ {T base : Nat} {w : World} {v : Value} {cs : List Nat} (h : OW T base w v cs) {k : Nat} (hk : k < cs.length) :
    ∃ g cap, v = .slice (some ⟨g, 0, none⟩) cs.length cap ∧ base ≤ g ∧ g < w.heap.size ∧ (∃ u, w.cell? ⟨g, k, none⟩ = some u) ∧ w.frozen? ⟨g, k, none⟩ = false ∧
      ∀ r, r < 4294967296 → OW T base (w.setCell ⟨g, k, none⟩ (.float .f32 r)) v (cs.set k (cn .f32 r)) ∧ w.grownBy (w.setCell ⟨g, k, none⟩ (.float .f32 r)) (some g) := by
  obtain ⟨xs, ho, hcs, hx⟩ := h
  have hlen : xs.length = cs.length := by rw [← hcs]; simp
  rcases ho.2 with ⟨rfl, h0⟩ | ⟨g, cap, cur, rfl, hb, hg, hn, hm, hs, ht⟩
  · omega
  · refine ⟨g, cap, by rw [hlen], hb, (ho.lt g rfl).2, ?_, ho.frozenAt k, fun r hr => ?_⟩
    · rw [ho.cellAt k (by omega)]
      exact ⟨_, by rw [List.getElem?_eq_getElem (by simpa using (by omega : k < xs.length))]⟩
    · obtain ⟨h1, h2⟩ := ho.stored k (.float .f32 r)
      refine ⟨⟨xs.set k r, ?_, by rw [← hcs, List.map_set], ?_⟩, h2⟩
      · simpa [List.map_set] using h1
      · intro y hy
        rcases List.mem_or_eq_of_mem_set hy with hy | rfl
        · exact hx y hy
        · exact hr

/-- Numbers and whether there are some. -/
def given (cs : List Nat) : List Nat × Bool := (if allFin cs then cs else [], allFin cs)
/-- A slice of the call's own and a bool are returned. -/
def LB (T base : Nat) (w : World) (e : Ending) (q : List Nat × Bool) : Prop := ∃ v b, e = .returned (.tuple #[v, .bool b]) ∧ OW T base w v q.1 ∧ b = q.2
theorem LB.no (T base : Nat) (w : World) {q : List Nat × Bool} (hq : q = ([], false)) : LB T base w (.returned (.tuple #[.slice none 0 0, .bool false])) q := by
  subst hq; exact ⟨_, _, rfl, OW.nil T base w, rfl⟩
/-- The same slice is returned if its numbers are finite. -/
def GV (v : Value) (cs : List Nat) (e : Ending) : Prop := ∃ u b, e = .returned (.tuple #[u, .bool b]) ∧ u = (if allFin cs then v else .slice none 0 0) ∧ b = allFin cs
theorem LB.given {T base : Nat} {w : World} {v u : Value} {b : Bool} {cs : List Nat} (h : OW T base w v cs) (hu : u = (if allFin cs then v else .slice none 0 0)) (hb : b = allFin cs) {q : List Nat × Bool} (hq : q = Go.Proofs.Ytkkomajokdlkeaa.given cs) : LB T base w (.returned (.tuple #[u, .bool b])) q := by
  subst hq; subst hu; subst hb
  refine ⟨_, _, rfl, ?_, rfl⟩
  unfold Go.Proofs.Ytkkomajokdlkeaa.given
  split
  · exact h
  · exact OW.nil T base w

theorem bcellG {N : Nat} {W w1 : World} {row : Option Nat} (hg : W.grownBy w1 row) (hN : N ≤ W.heap.size) (hr : ∀ g, row = some g → N ≤ g) : (∀ b o, b < N → w1.cell? ⟨b, o, none⟩ = W.cell? ⟨b, o, none⟩) ∧ (∀ b o, b < N → w1.frozen? ⟨b, o, none⟩ = W.frozen? ⟨b, o, none⟩) := by
  have h : ∀ b, b < N → w1.heap[b]? = W.heap[b]? := fun b hb => hg.block b (by omega) (fun e => by have := hr b e.symm; omega)
  exact ⟨fun b o hb => World.cell?_of_block (a := ⟨b, o, none⟩) (h b hb), fun b o hb => World.frozen?_of_block (a := ⟨b, o, none⟩) (h b hb)⟩
theorem below_grown {B : Nat} {W w1 : World} {row : Option Nat} (hg : W.grownBy w1 row) (hN : B ≤ W.heap.size) (hr : ∀ g, row = some g → B ≤ g) : Below B W w1 := (Below.refl B W).grown hg hN hr
theorem OW.low {T base B : Nat} {w : World} {v : Value} {cs : List Nat} (h : OW T base w v cs) (hB : w.heap.size ≤ B) : ∀ g, v.ownBlock = some g → g < B := fun g hg => Nat.lt_of_lt_of_le (h.block g hg).2 hB

theorem OW.grown_low {T base B : Nat} {w w' : World} {v : Value} {cs : List Nat} {row : Option Nat} (h : OW T base w v cs) (hlow : ∀ g, v.ownBlock = some g → g < B) (hg : w.grownBy w' row) (hr : ∀ g, row = some g → B ≤ g) : OW T base w' v cs := by
  refine h.kept hg ?_
  cases hv : v.ownBlock with
  | none => exact .inl rfl
  | some g =>
    refine .inr fun e => ?_
    have := hlow g hv
    have := hr g e.symm
    omega
theorem grown_drewN {w w' : World} {n : Nat} {row : Option Nat} (hg : (w.drewN n).grownBy w' row) : w.grownBy w' row := ⟨hg.os, hg.tape, hg.output, hg.size, hg.block⟩
theorem below_undrew {w w' : World} {n : Nat} (h : Below (w.drewN n).heap.size (w.drewN n) w') : Below w.heap.size w w' := ⟨h.os, h.tape, h.output, h.size, h.block⟩

end Go.Proofs.Ytkkomajokdlkeaa
