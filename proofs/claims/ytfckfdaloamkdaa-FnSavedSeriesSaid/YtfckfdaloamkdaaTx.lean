/- Texts: cut at a byte, numbers in decimal. Plain: no program. -/
import Derived.Test.YtfckfdaloamkdaaBy
import Derived.Lib.Split
import Derived.Lib.SplitLaws
import Derived.Lib.CutLaws
import Derived.Lib.ItoaNum
namespace Go.Proofs.Ytfckfdaloamkdaa
set_option linter.unusedSimpArgs false
set_option linter.unusedVariables false
set_option maxRecDepth 100000
set_option maxHeartbeats 4000000
open Go.RowKit

/-- A text out of bytes. -/
def tx (l : List UInt8) : ByteArray := ⟨l.toArray⟩
theorem tx_data (l : List UInt8) : (tx l).data.toList = l := by simp [tx]
theorem data_tx (s : ByteArray) : tx s.data.toList = s := by cases s; simp [tx]
theorem tx_inj {a b : List UInt8} (h : tx a = tx b) : a = b := by rw [← tx_data a, h, tx_data]
theorem tx_size (l : List UInt8) : (tx l).size = l.length := by simp [tx, ByteArray.size]
theorem tx_append (a b : List UInt8) : tx a ++ tx b = tx (a ++ b) := by
  apply ByteArray.ext
  simp [tx, ByteArray.append, ByteArray.data_append]
theorem tx_piece (s : ByteArray) (f k : Nat) : s.extract f k = tx ((s.data.toList.drop f).take (k - f)) := by
  rw [← data_tx (s.extract f k), Lib.extract_data]
theorem data_inj : ∀ {a b : List ByteArray}, a.map (·.data.toList) = b.map (·.data.toList) → a = b
  | [], [], _ => rfl
  | [], _ :: _, h => by simp at h
  | _ :: _, [], h => by simp at h
  | x :: a, y :: b, h => by
    simp only [List.map_cons, List.cons.injEq] at h
    rw [data_inj h.2, ← data_tx x, ← data_tx y, h.1]
/-- A text cut at a byte. -/
def cutC (c : UInt8) : List UInt8 → List (List UInt8)
  | [] => [[]]
  | b :: l => if b = c then [] :: cutC c l else match cutC c l with
    | [] => [[b]]
    | h :: t => (b :: h) :: t
theorem cutC_ne (c : UInt8) (l : List UInt8) : cutC c l ≠ [] := by
  cases l with
  | nil => simp [cutC]
  | cons b l =>
    rw [cutC]
    split
    · simp
    · split <;> simp
theorem cutC_end (c : UInt8) : ∀ {a : List UInt8}, c ∉ a → cutC c a = [a]
  | [], _ => rfl
  | b :: a, h => by
    have h1 : b ≠ c := fun e => h (by simp [e])
    have h2 : c ∉ a := fun e => h (by simp [e])
    rw [cutC, if_neg h1, cutC_end c h2]
theorem cutC_hit (c : UInt8) : ∀ {a : List UInt8} (r : List UInt8), c ∉ a → cutC c (a ++ c :: r) = a :: cutC c r
  | [], r, _ => by rw [List.nil_append, cutC, if_pos rfl]
  | b :: a, r, h => by
    have h1 : b ≠ c := fun e => h (by simp [e])
    have h2 : c ∉ a := fun e => h (by simp [e])
    rw [List.cons_append, cutC, if_neg h1, cutC_hit c r h2]
theorem cutC_len (c : UInt8) : ∀ l : List UInt8, (cutC c l).length = l.count c + 1
  | [] => rfl
  | b :: l => by
    rw [cutC]
    by_cases h : b = c
    · subst h
      rw [if_pos rfl, List.length_cons, cutC_len, List.count_cons_self]
    · rw [if_neg h, List.count_cons_of_ne h]
      have := cutC_len c l
      cases hc : cutC c l with
      | nil => exact absurd hc (cutC_ne c l)
      | cons x t => rw [hc] at this; simpa using this
theorem cutC_le (c : UInt8) (l : List UInt8) : (cutC c l).length ≤ l.length + 1 := by
  rw [cutC_len]
  have := List.count_le_length (a := c) (l := l)
  omega
theorem cutC_mem (c : UInt8) : ∀ (l : List UInt8) {x : List UInt8}, x ∈ cutC c l → c ∉ x
  | [], x, h => by
    simp only [cutC, List.mem_singleton] at h
    simp [h]
  | b :: l, x, h => by
    rw [cutC] at h
    by_cases hb : b = c
    · rw [if_pos hb] at h
      rcases List.mem_cons.1 h with h | h
      · simp [h]
      · exact cutC_mem c l h
    · rw [if_neg hb] at h
      cases hc : cutC c l with
      | nil => exact absurd hc (cutC_ne c l)
      | cons y t =>
        rw [hc] at h
        rcases List.mem_cons.1 h with h | h
        · subst h
          have := cutC_mem c l (x := y) (by rw [hc]; simp)
          simp only [List.mem_cons, not_or]
          exact ⟨fun e => hb e.symm, this⟩
        · exact cutC_mem c l (by rw [hc]; simp [h])
/-- The whole text out of the parts. -/
theorem cutC_join (c : UInt8) : ∀ l : List UInt8, [c].intercalate (cutC c l) = l
  | [] => rfl
  | b :: l => by
    have ih := cutC_join c l
    have hne := cutC_ne c l
    rw [cutC]
    by_cases hb : b = c
    · rw [if_pos hb]
      subst hb
      cases hc : cutC b l with
      | nil => exact absurd hc hne
      | cons x t =>
        rw [hc] at ih
        rw [List.intercalate_cons_cons, ih]
        simp
    · rw [if_neg hb]
      cases hc : cutC c l with
      | nil => exact absurd hc hne
      | cons x t =>
        rw [hc] at ih
        cases t with
        | nil => simpa using ih
        | cons y t =>
          rw [List.intercalate_cons_cons] at ih ⊢
          simpa using ih
/-- The library's pieces are these. -/
theorem splitK_cut (c : UInt8) : ∀ (n : Nat) (s : List UInt8), s.length ≤ n → Lib.splitK [c] 0 (Lib.count s [c]) s = cutC c s := by
  intro n
  induction n with
  | zero =>
    intro s h
    obtain rfl : s = [] := List.length_eq_zero_iff.1 (by omega)
    rw [Lib.count_one]
    rfl
  | succ n ih =>
    intro s h
    rcases Lib.index_spec s [c] with ⟨h1, -⟩ | ⟨i, h1, h2, h3, h4⟩
    · rw [Lib.count_miss h1]
      rw [Lib.index_one] at h1
      have hn : c ∉ s := fun hm => by
        obtain ⟨k, hk, e⟩ := List.getElem_of_mem hm
        exact Lib.indexByte_none h1 k (by rw [List.getElem?_eq_getElem hk, e])
      rw [cutC_end c hn]
      rfl
    · rw [Lib.count_hit (by simp) h1, Nat.add_comm 1, Lib.splitK]
      have hne : ¬ (Lib.index s [c] == -1) = true := fun e => by have := beq_iff_eq.1 e; omega
      rw [if_neg hne]
      have ei : (Lib.index s [c]).toNat = i := by omega
      rw [ei, Nat.add_zero]
      have hb := h1
      rw [Lib.index_one] at hb
      obtain ⟨e1, e2⟩ := Lib.indexByte_some hb
      have hi : i < s.length := by
        rcases Nat.lt_or_ge i s.length with h | h
        · exact h
        · rw [List.getElem?_eq_none h] at e1; cases e1
      have e3 : s[i] = c := by rw [List.getElem?_eq_getElem hi] at e1; exact Option.some.inj e1
      have hs : s = s.take i ++ c :: s.drop (i + 1) := by
        rw [← e3, List.getElem_cons_drop, List.take_append_drop]
      have hn : c ∉ s.take i := fun hm => by
        obtain ⟨k, hk, e⟩ := List.getElem_of_mem hm
        have hk2 : k < i := by rw [List.length_take] at hk; omega
        rw [List.getElem_take] at e
        exact e2 k hk2 ((List.getElem?_eq_getElem (show k < s.length by omega)).trans (congrArg some e))
      show _ :: Lib.splitK [c] 0 (Lib.count (s.drop (i + [c].length)) [c]) (s.drop (i + [c].length)) = _
      rw [ih _ (by rw [List.length_drop]; show s.length - (i + 1) ≤ n; omega)]
      conv => rhs; rw [hs]
      rw [cutC_hit c _ hn]
      rfl
def cutB (c : UInt8) (s : ByteArray) : List ByteArray := (cutC c s.data.toList).map tx
theorem cutB_length (c : UInt8) (s : ByteArray) : (cutB c s).length = (cutC c s.data.toList).length := List.length_map ..
theorem splitB_cut (c : UInt8) (s : ByteArray) : Lib.splitB ⟨#[c]⟩ 0 (Lib.countB s ⟨#[c]⟩) s = cutB c s := by
  apply data_inj
  rw [Lib.splitB_data, cutB, List.map_map]
  rw [show ((fun x : ByteArray => x.data.toList) ∘ tx) = id from funext fun l => tx_data l, List.map_id]
  exact splitK_cut c _ _ (Nat.le_refl _)
theorem countB_cut (c : UInt8) (s : ByteArray) : Lib.countB s ⟨#[c]⟩ + 1 = (cutC c s.data.toList).length := by
  rw [cutC_len, ← Lib.count_one]; try rfl
/-- How far the cutting has come: these parts, the next one from f on, the byte not seen between f and k. -/
def CutAt (c : UInt8) (l : List UInt8) (done : List (List UInt8)) (f k : Nat) : Prop := f ≤ k ∧ k ≤ l.length ∧ cutC c l = done ++ cutC c (l.drop f) ∧ c ∉ (l.drop f).take (k - f)
theorem CutAt.start (c : UInt8) (l : List UInt8) : CutAt c l [] 0 0 := ⟨Nat.le_refl _, Nat.zero_le _, rfl, by simp⟩
theorem CutAt.step {c : UInt8} {l : List UInt8} {done : List (List UInt8)} {f k : Nat} (h : CutAt c l done f k) (hk : k < l.length) (hne : l[k] ≠ c) : CutAt c l done f (k + 1) := by
  obtain ⟨h1, h2, h3, h4⟩ := h
  refine ⟨by omega, hk, h3, ?_⟩
  rw [show k + 1 - f = (k - f) + 1 by omega, List.take_succ_eq_append_getElem (by rw [List.length_drop]; omega), List.mem_append, not_or]
  refine ⟨h4, ?_⟩
  rw [List.getElem_drop, List.mem_singleton]
  intro e
  exact hne (by rw [e]; congr 1; omega)
theorem CutAt.hit {c : UInt8} {l : List UInt8} {done : List (List UInt8)} {f k : Nat} (h : CutAt c l done f k) (hk : k < l.length) (he : l[k] = c) : CutAt c l (done ++ [(l.drop f).take (k - f)]) (k + 1) (k + 1) := by
  obtain ⟨h1, h2, h3, h4⟩ := h
  refine ⟨Nat.le_refl _, hk, ?_, by simp⟩
  rw [h3, List.append_assoc]
  congr 1
  have e : l.drop f = (l.drop f).take (k - f) ++ c :: l.drop (k + 1) := by
    conv => lhs; rw [← List.take_append_drop (k - f) (l.drop f)]
    rw [List.drop_drop, show f + (k - f) = k by omega, ← List.getElem_cons_drop hk, he]
  conv => lhs; rw [e]
  rw [cutC_hit c _ h4]
  rfl
theorem CutAt.all {c : UInt8} {l : List UInt8} {done : List (List UInt8)} {f : Nat} (h : CutAt c l done f l.length) : cutC c l = done ++ [(l.drop f).take (l.length - f)] := by
  obtain ⟨h1, h2, h3, h4⟩ := h
  rw [h3]
  congr 1
  have e : (l.drop f).take (l.length - f) = l.drop f := List.take_of_length_le (by rw [List.length_drop]; omega)
  rw [e] at h4 ⊢
  exact cutC_end c h4
section
variable {α : Type} {inj : α → Value} {P : Program} {S T : Nat} {z : Value} {by_ : Nat}
/-- append of all elements of a slice. -/
theorem wpList_gappS (F : OneC P S T z by_) (hinj : ∀ x, (inj x).oneCell' = true) {ops : Array Oper} {Q : Exit → Act → World → Prop} {a : Act} {w : World} {rest : List Oper} {dst : Option Tmp} {s x : Operand} {type : TypeId} {pos : String} {after : Array Edge}
    (lo : Nat) (v : Value) (xs : List α) (hs : a.eval s = v) (hown : GO inj T lo w v xs) (ys : List α) (b off n c : Nat) (hn : n = ys.length) (hx : a.eval x = .slice (some ⟨b, off, none⟩) n c) (hc : ∀ i u, ys[i]? = some u → w.cell? ⟨b, off + i, none⟩ = some (inj u))
    (hl : xs.length + ys.length < 1099511627776) (hbase : lo ≤ w.heap.size)
    (h : ∀ v' w', GO inj T lo w' v' (xs ++ ys) → w.grownBy w' v.ownBlock → wpList P ops Q rest (a.put dst v') w') :
    wpList P ops Q ({ dst := dst, op := .call { callee := .builtin .append, args := #[s, x], argTypes := #[S, S] }, type := type, pos := pos, after := after, guard := none } :: rest) a w := by
  obtain ⟨i, hi, hz, hsz, hby⟩ := F.info
  have h16 := F.small
  subst hn
  refine wpList_append_own (P := P) w rfl s x S rfl lo T i z 1 by_ F.slice hi hz hsz hby (by rw [F.one]; rfl) (by decide) v xs.length _ hs hown ⟨b, off, none⟩ ys.length c (ys.map inj) hx (by simp) ?_ ?_ ?_ ?_ hbase ?_
  · intro j u hu
    rw [List.getElem?_map] at hu
    obtain ⟨y, hy, rfl⟩ := Option.map_eq_some_iff.1 hu
    rw [Addr.add_lit]
    exact hc j y hy
  · intro u hu
    obtain ⟨y, _, rfl⟩ := List.mem_map.1 hu
    exact hinj y
  · have : maxLen = 9223372036854775807 := rfl
    omega
  · have : (xs.length + ys.length) * by_ ≤ 1099511627776 * 32 := Nat.mul_le_mul (by omega) h16
    omega
  · intro v' w' h1 h2 _
    refine h v' w' ?_ h2
    unfold GO
    rw [List.length_append, List.map_append]
    exact h1
end
/-- The last digits of m are laid; r is what is left. -/
def DecAt (m : Nat) (out : List UInt8) (r : Nat) : Prop := (out = [] ∧ r = m) ∨ (out ≠ [] ∧ Lib.decDigits m = (if r = 0 then [] else Lib.decDigits r) ++ out)
def dgt (r : Nat) : UInt8 := UInt8.ofNat (48 + r)
theorem dgt_val {r : Nat} (h : r < 10) : ((dgt r).toNat : Int) = 48 + r := by
  unfold dgt
  rw [UInt8.toNat_ofNat']
  omega
theorem decDigits_step (r : Nat) : Lib.decDigits r = (if r / 10 = 0 then [] else Lib.decDigits (r / 10)) ++ [dgt (r % 10)] := by
  rw [Lib.decDigits]
  by_cases h : r < 10
  · rw [dif_pos h, if_pos (by omega), Nat.mod_eq_of_lt h]
    rfl
  · rw [dif_neg h, if_neg (by omega)]
    rfl
theorem DecAt.step {m : Nat} {out : List UInt8} {r : Nat} (h : DecAt m out r) (hg : out = [] ∨ r ≠ 0) : DecAt m (dgt (r % 10) :: out) (r / 10) := by
  refine .inr ⟨by simp, ?_⟩
  rcases h with ⟨rfl, rfl⟩ | ⟨h1, h2⟩
  · exact decDigits_step r
  · have hr : r ≠ 0 := by
      rcases hg with h | h
      · exact absurd h h1
      · exact h
    rw [h2, if_neg hr, decDigits_step r, List.append_assoc]
    rfl
theorem DecAt.all {m : Nat} {out : List UInt8} (h : DecAt m out 0) (hne : out ≠ []) : Lib.decDigits m = out := by
  rcases h with ⟨h1, -⟩ | ⟨-, h2⟩
  · exact absurd h1 hne
  · rw [h2]; rfl
theorem DecAt.start (m : Nat) : DecAt m [] m := .inl ⟨rfl, rfl⟩
theorem itoa_neg {n : Int} (h : n < 0) : Lib.itoa n = 45 :: Lib.decDigits n.natAbs := by rw [Lib.itoa, if_pos h]
theorem itoa_nat {n : Int} (h : ¬ n < 0) : Lib.itoa n = Lib.decDigits n.natAbs := by
  rw [Lib.itoa, if_neg h]
  congr 1
  omega
theorem tmod_abs {n : Int} : (n.tmod 10 < 0 → -(n.tmod 10) = ((n.natAbs % 10 : Nat) : Int)) ∧ (¬ n.tmod 10 < 0 → n.tmod 10 = ((n.natAbs % 10 : Nat) : Int)) := by
  have h : (n.tmod 10).natAbs = n.natAbs % 10 := by rw [Int.natAbs_tmod]; rfl
  constructor <;> intro h2 <;> omega
theorem tdiv_abs (n : Int) : (n.tdiv 10).natAbs = n.natAbs / 10 := by rw [Int.natAbs_tdiv]; rfl
/-- A literal slice's block. -/
theorem GO.lit2 {α : Type} (inj : α → Value) (T lo : Nat) (w : World) (xs : List α) {cells : Array Value} (hc : cells = (xs.map inj).toArray) {n m : Nat} (hn : n = w.heap.size) (hm : m = xs.length) (hb : lo ≤ w.heap.size) (hl : xs.length < 1000000000) : GO inj T lo (w.alloc (.cells cells T)) (.slice (some ⟨n, 0, none⟩) m m) xs := by
  subst hc hn hm
  have := World.ownsRow_lit (e := T) (size := 1) w (xs.map inj).toArray xs.length hb (by have : maxLen = 9223372036854775807 := rfl; omega) (by simp)
  simpa [GO] using this
theorem GL.cells {α : Type} {inj : α → Value} {w : World} {b off n c : Nat} {xs : List α} (h : GL inj w (.slice (some ⟨b, off, none⟩) n c) xs) : ∀ i u, xs[i]? = some u → w.cell? ⟨b, off + i, none⟩ = some (inj u) := by
  obtain ⟨ao, c', e, -, hg⟩ := h
  injection e with e1 e2 e3
  subst e1
  intro i u hu
  obtain ⟨hi, rfl⟩ := List.getElem?_eq_some_iff.1 hu
  obtain ⟨b', off', e1, -, h2⟩ := hg i hi
  injection e1 with e1
  injection e1 with e1 e2
  subst e1 e2
  exact h2
theorem GO.addr {α : Type} {inj : α → Value} {T lo : Nat} {w : World} {v : Value} {xs : List α} (h : GO inj T lo w v xs) (hne : xs ≠ []) : ∃ b c, v = .slice (some ⟨b, 0, none⟩) xs.length c := by
  rcases h.2 with ⟨rfl, h0⟩ | ⟨g, cap, cur, rfl, hb, hg, hn, hm, hs, ht⟩
  · exact absurd (List.eq_nil_of_length_eq_zero h0) hne
  · exact ⟨g, cap, rfl⟩
/-- The beginning of a slice that is read. -/
theorem GL.pre {α : Type} {inj : α → Value} {w : World} {ao : Option Addr} {n c m : Nat} {xs ys : List α} (h : GL inj w (.slice ao n c) xs) (hy : ∃ k, ys = xs.take k) (hm : m = ys.length) : GL inj w (.slice ao m c) ys := by
  obtain ⟨ao', c', e, ⟨h1, h2⟩, hg⟩ := h
  injection e with e1 e2 e3
  subst e1 e3 hm
  obtain ⟨k, rfl⟩ := hy
  refine ⟨ao, c, rfl, ⟨by rw [List.length_take]; omega, h2⟩, fun i hi => ?_⟩
  have hi2 : i < xs.length := by rw [List.length_take] at hi; omega
  rw [List.getElem_take]
  exact hg i hi2

end Go.Proofs.Ytfckfdaloamkdaa
