/- What is saved, read out of bytes: what both sides read. Plain. -/
import Derived.Test.YtfckfdaloamkdaaK74
import Derived.Test.YtfckfdaloamkdaaTx
namespace Go.Proofs.Ytfckfdaloamkdaa
set_option linter.unusedSimpArgs false
set_option linter.unusedVariables false
set_option maxRecDepth 100000
set_option maxHeartbeats 4000000
open Go.RowKit

/-- The number of bytes, the least one first. -/
def leV : List UInt8 → Nat
  | [] => 0
  | b :: r => b.toNat + 256 * leV r
theorem leV_lt : ∀ l : List UInt8, leV l < 256 ^ l.length
  | [] => by decide
  | b :: r => by
    have h := leV_lt r
    have hb := b.toNat_lt
    rw [leV, List.length_cons, Nat.pow_succ]
    omega
theorem leV_snoc (b : UInt8) : ∀ l : List UInt8, leV (l ++ [b]) = leV l + 256 ^ l.length * b.toNat
  | [] => by simp [leV]
  | c :: r => by
    rw [List.cons_append, leV, leV_snoc b r, leV, List.length_cons, Nat.pow_succ, Nat.mul_add, ← Nat.mul_assoc, Nat.mul_comm 256 (256 ^ r.length)]
    omega
theorem leV_zero : ∀ n, leV (List.replicate n 0) = 0
  | 0 => rfl
  | n + 1 => by rw [List.replicate_succ, leV, leV_zero n]; rfl
theorem leV4 (a b c d : UInt8) : leV [a, b, c, d] = a.toNat + 256 * b.toNat + 65536 * c.toNat + 16777216 * d.toNat := by
  simp only [leV]; omega
/-- n numbers of four bytes from a place on. -/
def numsV (l : List UInt8) (a : Nat) : Nat → List Nat
  | 0 => []
  | n + 1 => numsV l a n ++ [leV ((l.drop (a + 4 * n)).take 4)]
theorem numsV_length (l : List UInt8) (a : Nat) : ∀ n, (numsV l a n).length = n
  | 0 => rfl
  | n + 1 => by rw [numsV, List.length_append, numsV_length l a n]; rfl
theorem numsV_lt (l : List UInt8) (a : Nat) : ∀ n, ∀ x ∈ numsV l a n, x < 4294967296
  | 0, x, h => by cases h
  | n + 1, x, h => by
    rw [numsV] at h
    rcases List.mem_append.1 h with h | h
    · exact numsV_lt l a n x h
    · rw [List.mem_singleton.1 h]
      have h1 := leV_lt ((l.drop (a + 4 * n)).take 4)
      have h2 : 256 ^ ((l.drop (a + 4 * n)).take 4).length ≤ 256 ^ 4 := Nat.pow_le_pow_right (by decide) (by rw [List.length_take]; omega)
      have h3 : (256 : Nat) ^ 4 = 4294967296 := by decide
      omega
/-- What bytes begin with, as the reference takes it: the name, the day's number, the numbers, how many bytes. -/
def ldP (l : List UInt8) : Option (List UInt8 × Nat × List Nat × Nat) :=
  if l.length < 5 then none
  else if l.length < 5 + (l.getD 4 0).toNat + 5 then none
  else if l.length < 5 + (l.getD 4 0).toNat + 5 + 4 * (l.getD (5 + (l.getD 4 0).toNat + 4) 0).toNat + 2 then none
  else some ((l.drop 5).take (l.getD 4 0).toNat, leV ((l.drop (5 + (l.getD 4 0).toNat)).take 4), numsV l (5 + (l.getD 4 0).toNat + 5) (l.getD (5 + (l.getD 4 0).toNat + 4) 0).toNat, 5 + (l.getD 4 0).toNat + 5 + 4 * (l.getD (5 + (l.getD 4 0).toNat + 4) 0).toNat + 2)
def ldK (l : List UInt8) : List UInt8 × Nat × List Nat × Nat → Option (ByteArray × Int × List Nat × Nat)
  | (nm, d, ns, e) => if savedOk (tx nm) ((d : Int) - 1000000) (ns.map (cn .f32)) = true ∧ storeB (tx nm) ((d : Int) - 1000000) (ns.map (cn .f32)) = l.take e then some (tx nm, (d : Int) - 1000000, ns, e) else none
/-- What is saved in front of bytes, and how many these are. -/
def lsQ (l : List UInt8) : Option (ByteArray × Int × List Nat × Nat) := (ldP l).bind (ldK l)
/-- The program's taker: the bytes, the place behind, whether something was missing. -/
def tk (l : List UInt8) (a : Nat) (sh : Bool) (n : Nat) : List UInt8 × Nat × Bool := if l.length - a < n then (List.replicate n 0, a, true) else ((l.drop a).take n, a + n, sh)
theorem tk_no {l : List UInt8} {a n : Nat} (sh : Bool) (h : l.length - a < n) : tk l a sh n = (List.replicate n 0, a, true) := if_pos h
theorem tk_yes {l : List UInt8} {a n : Nat} (sh : Bool) (h : ¬ l.length - a < n) : tk l a sh n = ((l.drop a).take n, a + n, sh) := if_neg h
theorem tk_short (l : List UInt8) (a n : Nat) : (tk l a true n).2.2 = true := by unfold tk; split <;> rfl
/-- n numbers taken. -/
def tkN (l : List UInt8) (a : Nat) (sh : Bool) : Nat → List Nat × Nat × Bool
  | 0 => ([], a, sh)
  | n + 1 => let r := tkN l a sh n; let q := tk l r.2.1 r.2.2 4; (r.1 ++ [leV q.1], q.2.1, q.2.2)
theorem tkN_short (l : List UInt8) (a : Nat) : ∀ n, (tkN l a true n).2.2 = true
  | 0 => rfl
  | n + 1 => by
    have h := tkN_short l a n
    show (tk l (tkN l a true n).2.1 (tkN l a true n).2.2 4).2.2 = true
    rw [h]
    exact tk_short ..
theorem tkN_stays (l : List UInt8) (a : Nat) (sh : Bool) {n m : Nat} (h : (tkN l a sh n).2.2 = true) (hm : n ≤ m) : (tkN l a sh m).2.2 = true := by
  induction m with
  | zero => have : n = 0 := by omega
            rw [← this]; exact h
  | succ m ih =>
    by_cases e : n = m + 1
    · rw [← e]; exact h
    · have := ih (by omega)
      show (tk l (tkN l a sh m).2.1 (tkN l a sh m).2.2 4).2.2 = true
      rw [this]
      exact tk_short ..
theorem tkN_all (l : List UInt8) (a : Nat) : ∀ n, a + 4 * n ≤ l.length → tkN l a false n = (numsV l a n, a + 4 * n, false)
  | 0, _ => rfl
  | n + 1, h => by
    rw [tkN, tkN_all l a n (by omega), numsV]
    show ((numsV l a n) ++ [leV (tk l (a + 4 * n) false 4).1], _, _) = _
    rw [tk_yes false (by omega)]
    congr 1
theorem tkN_miss (l : List UInt8) (a : Nat) (ha : a ≤ l.length) (n : Nat) (h : ¬ a + 4 * n ≤ l.length) : (tkN l a false n).2.2 = true := by
  have h1 := tkN_all l a ((l.length - a) / 4) (by omega)
  refine tkN_stays l a false (n := (l.length - a) / 4 + 1) ?_ (by omega)
  show (tk l (tkN l a false ((l.length - a) / 4)).2.1 (tkN l a false ((l.length - a) / 4)).2.2 4).2.2 = true
  rw [h1]
  show (tk l (a + 4 * ((l.length - a) / 4)) false 4).2.2 = true
  rw [tk_no false (by omega)]
/-- What the program takes behind the mark. -/
def tkR (l : List UInt8) (a1 : Nat) (s1 : Bool) : Option (ByteArray × Int × List Nat × Nat) :=
  let k := tk l a1 s1 1
  let nm := tk l k.2.1 k.2.2 (leV k.1)
  let d := tk l nm.2.1 nm.2.2 4
  let n := tk l d.2.1 d.2.2 1
  let ns := tkN l n.2.1 n.2.2 (leV n.1)
  let c := tk l ns.2.1 ns.2.2 2
  if c.2.2 = true then none else ldK l (nm.1, leV d.1, ns.1, c.2.1)
def takenQ (l : List UInt8) : Option (ByteArray × Int × List Nat × Nat) := if (tk l 0 false 4).1 = [83, 69, 82, 49] then tkR l (tk l 0 false 4).2.1 (tk l 0 false 4).2.2 else none
theorem take1 {l : List UInt8} {a : Nat} (h : a < l.length) : (l.drop a).take 1 = [l.getD a 0] := by
  rw [List.drop_eq_getElem_cons h, List.getD_eq_getElem?_getD, List.getElem?_eq_getElem h]
  rfl
theorem leV1 (b : UInt8) : leV [b] = b.toNat := by simp [leV]
theorem takenQ_eq (l : List UInt8) : takenQ l = lsQ l := by
  unfold takenQ lsQ
  by_cases hm : (tk l 0 false 4).1 = [83, 69, 82, 49]
  · rw [if_pos hm]
    have h4 : ¬ l.length - 0 < 4 := by
      intro h
      rw [tk_no false h] at hm
      exact absurd hm (by decide)
    rw [tk_yes false h4]
    show tkR l (0 + 4) false = _
    rw [Nat.zero_add]
    unfold tkR ldP
    by_cases h5 : l.length < 5
    · rw [if_pos h5, tk_no false (show l.length - 4 < 1 by omega)]
      simp only [leV_zero, tk_short, tkN_short]
      rfl
    · rw [if_neg h5, tk_yes false (show ¬ l.length - 4 < 1 by omega), take1 (show 4 < l.length by omega)]
      simp only [leV1]
      generalize (l.getD 4 0).toNat = k
      show (let nm := tk l 5 false k; _) = _
      by_cases hk : l.length < 5 + k
      · rw [tk_no false (show l.length - 5 < k by omega)]
        simp only [tk_short, tkN_short]
        rw [if_pos (show l.length < 5 + k + 5 by omega)]
        rfl
      · rw [tk_yes false (show ¬ l.length - 5 < k by omega)]
        show (let d := tk l (5 + k) false 4; _) = _
        by_cases hd : l.length < 5 + k + 4
        · rw [tk_no false (show l.length - (5 + k) < 4 by omega)]
          simp only [tk_short, tkN_short]
          rw [if_pos (show l.length < 5 + k + 5 by omega)]
          rfl
        · rw [tk_yes false (show ¬ l.length - (5 + k) < 4 by omega)]
          show (let n := tk l (5 + k + 4) false 1; _) = _
          by_cases hn : l.length < 5 + k + 5
          · rw [if_pos hn, tk_no false (show l.length - (5 + k + 4) < 1 by omega)]
            simp only [tk_short, tkN_short]
            rfl
          · rw [if_neg hn, tk_yes false (show ¬ l.length - (5 + k + 4) < 1 by omega), take1 (show 5 + k + 4 < l.length by omega)]
            simp only [leV1]
            generalize (l.getD (5 + k + 4) 0).toNat = n
            show (let ns := tkN l (5 + k + 5) false n; _) = _
            by_cases hall : 5 + k + 5 + 4 * n ≤ l.length
            · rw [tkN_all l _ n hall]
              show (let c := tk l (5 + k + 5 + 4 * n) false 2; _) = _
              by_cases hc : l.length < 5 + k + 5 + 4 * n + 2
              · rw [if_pos hc, tk_no false (show l.length - (5 + k + 5 + 4 * n) < 2 by omega)]
                rfl
              · rw [if_neg hc, tk_yes false (show ¬ l.length - (5 + k + 5 + 4 * n) < 2 by omega)]
                rfl
            · have h := tkN_miss l (5 + k + 5) (by omega) n hall
              simp only [h, tk_short]
              rw [if_pos (show l.length < 5 + k + 5 + 4 * n + 2 by omega)]
              rfl
  · rw [if_neg hm]
    symm
    cases hp : ldP l with
    | none => rfl
    | some q =>
      obtain ⟨nm, d, ns, e⟩ := q
      show ldK l (nm, d, ns, e) = none
      refine if_neg fun h => hm ?_
      have h1 : 4 ≤ l.length ∧ 4 ≤ e := by
        unfold ldP at hp
        split at hp
        · cases hp
        · split at hp
          · cases hp
          · split at hp
            · cases hp
            · injection hp with hp
              injection hp with _ hp
              injection hp with _ hp
              injection hp with _ hp
              omega
      rw [tk_yes false (show ¬ l.length - 0 < 4 by omega)]
      show (l.drop 0).take 4 = _
      have h2 := congrArg (List.take 4) h.2
      rw [List.take_take, Nat.min_eq_left h1.2] at h2
      rw [List.drop_zero, ← h2]
      rfl

end Go.Proofs.Ytfckfdaloamkdaa
