/- Warped ways: what is reckoned, on canonical numbers, and that both ways of reckoning agree but for the sign of zero. Plain. -/
import Derived.Test.YtkkomajokdlkeaaQ6
import Derived.Test.YtkkomajokdlkeaaQ10
import Derived.Test.YtkkomajokdlkeaaQ15
namespace Go.Proofs.Ytkkomajokdlkeaa
set_option linter.unusedSimpArgs false
set_option linter.unusedVariables false
set_option maxRecDepth 100000
set_option maxHeartbeats 4000000
open Go.RowKit
def neg1 : Nat := 3212836864
/-- The size of a number by each of the two. -/
def szI (c : Nat) : Nat := mx c (Op.negFloat .f32 c)
def szS (c : Nat) : Nat := if fc .lss .f32 c 0 then Op.negFloat .f32 c else c
def geI (c : Nat) : Bool := fc .geq .f32 c 0
def geS (c : Nat) : Bool := !fc .lss .f32 c 0
/-- The cost at two places; -1 outside. -/
def wAt (C : List Nat) (wide : Nat) (p q : Int) : Nat := if p < 0 ∨ q < 0 then neg1 else C.getD (p.toNat * wide + q.toNat) 0
def candI (n : Nat) (i : Int) : Int := if n = 1 then i else i - 1
def candK (n : Nat) (k : Int) : Int := if n = 0 then k else k - 1
def wVal (ge : Nat → Bool) (C : List Nat) (wide : Nat) (p q : Int) : Option Nat := if ge (wAt C wide p q) then some (wAt C wide p q) else none
def wUpd (best : Option (Nat × Nat)) (n : Nat) (v : Option Nat) : Option (Nat × Nat) :=
  match v with
  | none => best
  | some c => match best with
    | none => some (n, c)
    | some b => if fc .lss .f32 c b.2 then some (n, c) else some b
def wThree (ge : Nat → Bool) (C : List Nat) (wide : Nat) (i k : Int) : Nat → Option (Nat × Nat)
  | 0 => none
  | n + 1 => wUpd (wThree ge C wide i k n) n (wVal ge C wide (candI n i) (candK n k))
theorem wThree_some {ge : Nat → Bool} {C : List Nat} {wide : Nat} {i k : Int} : ∀ {n : Nat} {b : Nat × Nat}, wThree ge C wide i k n = some b → b.1 < n ∧ b.2 = wAt C wide (candI b.1 i) (candK b.1 k) ∧ ge b.2 = true
  | 0, b, h => by cases h
  | n + 1, b, h => by
    rw [wThree] at h
    have key : ∀ o, wThree ge C wide i k n = o → wUpd o n (wVal ge C wide (candI n i) (candK n k)) = some b → b.1 < n + 1 ∧ b.2 = wAt C wide (candI b.1 i) (candK b.1 k) ∧ ge b.2 = true := by
      intro o ho h
      unfold wVal at h
      by_cases hg : ge (wAt C wide (candI n i) (candK n k)) = true
      · rw [if_pos hg] at h
        unfold wUpd at h
        cases o with
        | none =>
          simp only [Option.some.injEq] at h
          subst h
          exact ⟨Nat.lt_succ_self _, rfl, hg⟩
        | some b0 =>
          have ih := wThree_some ho
          dsimp only at h
          split at h
          · simp only [Option.some.injEq] at h
            subst h
            exact ⟨Nat.lt_succ_self _, rfl, hg⟩
          · simp only [Option.some.injEq] at h
            subst h
            exact ⟨Nat.lt_succ_of_lt ih.1, ih.2⟩
      · rw [if_neg hg] at h
        unfold wUpd at h
        dsimp only at h
        subst h
        have ih := wThree_some ho
        exact ⟨Nat.lt_succ_of_lt ih.1, ih.2⟩
    exact key _ rfl h
def farI (i k : Int) : Int := if i - k < 0 then k - i else i - k
def wCost (ge : Nat → Bool) (window : Int) (C : List Nat) (wide i k d : Nat) : Nat :=
  if i + k = 0 then d else match wThree ge C wide i k 3 with
  | none => neg1
  | some b => if window < farI i k then neg1 else addF b.2 d
theorem wCost_none {ge : Nat → Bool} {window : Int} {C : List Nat} {wide i k d : Nat} (h0 : i + k ≠ 0) (h : wThree ge C wide i k 3 = none) : wCost ge window C wide i k d = neg1 := by
  rw [wCost, if_neg h0, h]
theorem wCost_far {ge : Nat → Bool} {window : Int} {C : List Nat} {wide i k d : Nat} (h0 : i + k ≠ 0) {b : Nat × Nat} (h : wThree ge C wide i k 3 = some b) (hw : window < farI i k) : wCost ge window C wide i k d = neg1 := by
  rw [wCost, if_neg h0, h]
  exact if_pos hw
theorem wCost_near {ge : Nat → Bool} {window : Int} {C : List Nat} {wide i k d : Nat} (h0 : i + k ≠ 0) {b : Nat × Nat} (h : wThree ge C wide i k 3 = some b) (hw : ¬ window < farI i k) : wCost ge window C wide i k d = addF b.2 d := by
  rw [wCost, if_neg h0, h]
  exact if_neg hw
def wList (sz : Nat → Nat) (ge : Nat → Bool) (window : Int) (cs ds : List Nat) : Nat → List Nat
  | 0 => []
  | t + 1 => wList sz ge window cs ds t ++ [wCost ge window (wList sz ge window cs ds t) ds.length (t / ds.length) (t % ds.length) (sz (subF (cs.getD (t / ds.length) 0) (ds.getD (t % ds.length) 0)))]
theorem wList_length (sz : Nat → Nat) (ge : Nat → Bool) (window : Int) (cs ds : List Nat) : ∀ t, (wList sz ge window cs ds t).length = t
  | 0 => rfl
  | t + 1 => by rw [wList, List.length_append, wList_length]; rfl
theorem wList_at {sz : Nat → Nat} {ge : Nat → Bool} {window : Int} {cs ds : List Nat} {i k t : Nat} (ht : t = i * ds.length + k) (hk : k < ds.length) : wList sz ge window cs ds (t + 1) = wList sz ge window cs ds t ++ [wCost ge window (wList sz ge window cs ds t) ds.length i k (sz (subF (cs.getD i 0) (ds.getD k 0)))] := by
  have h1 : t / ds.length = i := by
    rw [ht, Nat.mul_comm, Nat.mul_add_div (by omega), Nat.div_eq_of_lt hk, Nat.add_zero]
  have h2 : t % ds.length = k := by
    rw [ht, Nat.mul_comm, Nat.mul_add_mod, Nat.mod_eq_of_lt hk]
  rw [wList, h1, h2]
/-- The way back. -/
def wBack (ge : Nat → Bool) (C : List Nat) (wide : Nat) : Nat → Int → Int → List Int
  | 0, _, _ => []
  | n + 1, i, k => (match wThree ge C wide i k 3 with
    | none => []
    | some b => wBack ge C wide n (candI b.1 i) (candK b.1 k)) ++ [i, k]
theorem neg1_ge : geI neg1 = false ∧ geS neg1 = false := by decide +kernel
theorem zs_fin (c : Nat) : fin (zs c) = fin c := by
  unfold zs
  split
  · rename_i h; subst h; decide +kernel
  · rfl
theorem fkey_zs (c : Nat) : fkey (zs c) = fkey c := by
  unfold zs
  split
  · rename_i h; subst h; decide
  · rfl
theorem fkey_of_zs {a b : Nat} (h : zs a = zs b) : fkey a = fkey b := by rw [← fkey_zs a, ← fkey_zs b, h]
theorem fin_of_zs {a b : Nat} (h : zs a = zs b) : fin a = fin b := by rw [← zs_fin a, ← zs_fin b, h]
theorem geI_key {a : Nat} (ha : a < 4294967296) (hf : fin a = true) : geI a = decide (0 ≤ fkey a) := by
  show (S.order a 0 == some .gt || S.order a 0 == some .eq) = _
  rw [order_key ha (by decide) (fin_mod ha hf) (by decide), show fkey 0 = 0 from rfl]
  rcases Int.lt_trichotomy (fkey a) 0 with h | h | h
  · rw [cmp_lt h, decide_eq_false (by omega)]; rfl
  · rw [h, cmp_eq rfl, decide_eq_true (by omega)]; rfl
  · rw [cmp_gt h, decide_eq_true (by omega)]; rfl
theorem geS_key {a : Nat} (ha : a < 4294967296) (hf : fin a = true) : geS a = decide (0 ≤ fkey a) := by
  show (!fc .lss .f32 a 0) = _
  rw [fcl_key ha (by decide) hf (by decide +kernel), show fkey 0 = 0 from rfl]
  by_cases h : fkey a < 0
  · rw [decide_eq_true h, decide_eq_false (by omega)]; rfl
  · rw [decide_eq_false h, decide_eq_true (by omega)]; rfl
/-- Two lists that are the same but for the sign of zero. -/
def Zl (A B : List Nat) : Prop := A.length = B.length ∧ ∀ i, i < A.length → A.getD i 0 < 4294967296 ∧ B.getD i 0 < 4294967296 ∧ zs (A.getD i 0) = zs (B.getD i 0) ∧ fin (A.getD i 0) = true
theorem wAt_z {A B : List Nat} (h : Zl A B) (wide : Nat) (p q : Int) (hp : 0 ≤ p → 0 ≤ q → p.toNat * wide + q.toNat < A.length) :
    wAt A wide p q < 4294967296 ∧ wAt B wide p q < 4294967296 ∧ zs (wAt A wide p q) = zs (wAt B wide p q) ∧ fin (wAt A wide p q) = true := by
  unfold wAt
  by_cases hpq : p < 0 ∨ q < 0
  · rw [if_pos hpq, if_pos hpq]; exact ⟨by decide, by decide, rfl, by decide +kernel⟩
  · rw [if_neg hpq, if_neg hpq]; exact h.2 _ (hp (by omega) (by omega))
/-- What is best of both lists. -/
def Bz (x y : Option (Nat × Nat)) : Prop := (x = none ∧ y = none) ∨ ∃ n a b, x = some (n, a) ∧ y = some (n, b) ∧ a < 4294967296 ∧ b < 4294967296 ∧ zs a = zs b ∧ fin a = true
theorem wUpd_z {x y : Option (Nat × Nat)} (h : Bz x y) (n a b : Nat) (ha : a < 4294967296) (hb : b < 4294967296) (hz : zs a = zs b) (hf : fin a = true) : Bz (wUpd x n (if geI a then some a else none)) (wUpd y n (if geS b then some b else none)) := by
  have hfb : fin b = true := by rw [← fin_of_zs hz]; exact hf
  rw [geI_key ha hf, geS_key hb hfb, ← fkey_of_zs hz]
  by_cases h0 : 0 ≤ fkey a
  · rw [decide_eq_true h0, if_pos rfl, if_pos rfl]
    rcases h with ⟨rfl, rfl⟩ | ⟨m, c, d, rfl, rfl, hc, hd, hzc, hfc⟩
    · exact .inr ⟨n, a, b, rfl, rfl, ha, hb, hz, hf⟩
    · unfold wUpd
      dsimp only
      have hfd : fin d = true := by rw [← fin_of_zs hzc]; exact hfc
      rw [fcl_key ha hc hf hfc, fcl_key hb hd hfb hfd, ← fkey_of_zs hz, ← fkey_of_zs hzc]
      by_cases hl : fkey a < fkey c
      · rw [if_pos (decide_eq_true hl), if_pos (decide_eq_true hl)]; exact .inr ⟨n, a, b, rfl, rfl, ha, hb, hz, hf⟩
      · rw [if_neg (by rw [decide_eq_false hl]; decide), if_neg (by rw [decide_eq_false hl]; decide)]; exact .inr ⟨m, c, d, rfl, rfl, hc, hd, hzc, hfc⟩
  · rw [decide_eq_false h0, if_neg (by decide), if_neg (by decide)]
    exact h
theorem wThree_z {A B : List Nat} (h : Zl A B) (wide : Nat) (i k : Int) (hp : ∀ p q : Int, p ≤ i → q ≤ k → (p < i ∨ q < k) → 0 ≤ p → 0 ≤ q → p.toNat * wide + q.toNat < A.length) : ∀ n, Bz (wThree geI A wide i k n) (wThree geS B wide i k n)
  | 0 => .inl ⟨rfl, rfl⟩
  | n + 1 => by
    have ih := wThree_z h wide i k hp n
    obtain ⟨h1, h2, h3, h4⟩ := wAt_z h wide (candI n i) (candK n k) (hp _ _ (by unfold candI; split <;> omega) (by unfold candK; split <;> omega) (by unfold candI candK; split <;> split <;> omega))
    rw [wThree, wThree, wVal, wVal]
    exact wUpd_z ih n _ _ h1 h2 h3 h4
theorem negw_val {x : Nat} (h : x < 4294967296) : Op.negFloat .f32 x = if x < 2147483648 then x + 2147483648 else x - 2147483648 := by
  show x ^^^ 2 ^ 31 = _
  have e : (2 : Nat) ^ 31 = 2147483648 := by decide
  by_cases hx : x < 2147483648
  · rw [if_pos hx]
    have h1 := Nat.two_pow_add_eq_or_of_lt (i := 31) (b := x) (by omega) 1
    rw [Nat.mul_one] at h1
    have h2 : x ^^^ 2 ^ 31 = 2 ^ 31 ||| x := by
      apply Nat.eq_of_testBit_eq
      intro i
      rw [Nat.testBit_xor, Nat.testBit_or, Nat.testBit_two_pow]
      by_cases hi : 31 = i
      · subst hi
        rw [Nat.testBit_lt_two_pow (by omega)]; simp
      · simp [hi]
    rw [h2, ← h1]; omega
  · rw [if_neg hx]
    obtain ⟨r, hr⟩ : ∃ r, r = x - 2147483648 := ⟨_, rfl⟩
    have hxr : x = 2 ^ 31 + r := by omega
    have h1 := Nat.two_pow_add_eq_or_of_lt (i := 31) (b := r) (by omega) 1
    rw [Nat.mul_one] at h1
    rw [hxr, h1, show ((2 : Nat) ^ 31 ||| r) ^^^ 2 ^ 31 = r from ?_]
    · rw [← h1, e]; exact (Nat.add_sub_cancel_left (n := 2147483648) (m := r)).symm
    · apply Nat.eq_of_testBit_eq
      intro i
      rw [Nat.testBit_xor, Nat.testBit_or, Nat.testBit_two_pow]
      by_cases hi : 31 = i
      · subst hi
        rw [Nat.testBit_lt_two_pow (show r < 2 ^ 31 by omega)]; simp
      · simp [hi]
theorem fkey_negw {x : Nat} (h : x < 4294967296) : fkey (Op.negFloat .f32 x) = -fkey x := by
  rw [negw_val h]
  unfold fkey
  by_cases hx : x < 2147483648
  · rw [if_pos hx, if_pos hx, if_neg (by omega), show x + 2147483648 - 2147483648 = x by omega]
  · rw [if_neg hx, if_neg hx, if_pos (by omega)]; omega
theorem negw_mod {x : Nat} (h : x < 4294967296) : Op.negFloat .f32 x < 4294967296 ∧ (Op.negFloat .f32 x) % 2147483648 = x % 2147483648 := by
  rw [negw_val h]
  split <;> omega
theorem fkey_zero {x : Nat} (h : x < 4294967296) (h0 : fkey x = 0) : x = 0 ∨ x = 2147483648 := by
  unfold fkey at h0
  split at h0
  · rcases Nat.eq_zero_or_pos x with h1 | h1
    · exact .inl h1
    · have := fV_lt h1; omega
  · rcases Nat.eq_zero_or_pos (x - 2147483648) with h1 | h1
    · exact .inr (by omega)
    · have := fV_lt h1; omega
theorem mod_notNaN {x : Nat} (hn : (S.read x).isNaN = false) : x % 2147483648 ≤ 2139095040 := by
  rcases Nat.lt_or_ge 2139095040 (x % 2147483648) with h | h
  · have h1 := read_nan_of (k := .f32) (b := x) h
    rw [show (FloatKind.f32.format.read x).isNaN = (S.read x).isNaN from rfl, hn] at h1
    cases h1
  · exact h
theorem negw_notNaN {x : Nat} (h : x < 4294967296) (hn : (S.read x).isNaN = false) : (S.read (Op.negFloat .f32 x)).isNaN = false := by
  have h1 := mod_notNaN hn
  obtain ⟨h2, h3⟩ := negw_mod h
  rw [read_single, h3]
  split
  · rfl
  · split
    · rfl
    · have h4 : x % 2147483648 = 2139095040 := by omega
      rw [if_pos h4]; rfl
/-- Both sizes are one but for the sign of zero. -/
theorem sz_z {x : Nat} (h : x < 4294967296) (hn : (S.read x).isNaN = false) : zs (szI x) = zs (szS x) ∧ szI x < 4294967296 ∧ szS x < 4294967296 := by
  obtain ⟨h2, h3⟩ := negw_mod h
  refine ⟨?_, mx_lt h h2, by unfold szS; split <;> assumption⟩
  have h1 := mod_notNaN hn
  rcases Nat.lt_or_ge (x % 2147483648) 2139095040 with hm | hm
  · have ho := order_key h h2 hm (by omega)
    have ho2 := order_key h (show 0 < 4294967296 by decide) hm (by decide)
    rw [fkey_negw h] at ho
    rw [show fkey 0 = 0 from rfl] at ho2
    have hs : fc .lss .f32 x 0 = (S.order x 0 == some .lt) := rfl
    rcases Int.lt_trichotomy (fkey x) 0 with hk | hk | hk
    · rw [cmp_lt (by omega)] at ho
      rw [cmp_lt hk] at ho2
      unfold szI szS mx
      rw [ho, hs, ho2]
      rfl
    · rcases fkey_zero h hk with rfl | rfl <;> decide +kernel
    · rw [cmp_gt (by omega)] at ho
      rw [cmp_gt hk] at ho2
      unfold szI szS mx
      rw [ho, hs, ho2]
      rfl
  · have h4 : x = 2139095040 ∨ x = 4286578688 := by omega
    rcases h4 with rfl | rfl <;> decide +kernel
theorem fin_num {c : Nat} (h : fin c = true) : ∃ (s : Bool) (m : Nat) (p : Int), S.read c = .number s m p := by
  have h1 := fin_notNaN h
  cases hr : S.read c with
  | nan => rw [hr] at h1; cases h1
  | number s m p => exact ⟨s, m, p, rfl⟩
  | infinity s =>
    have h2 : fc .eql .f32 (ar .sub .f32 c c) 0 = true := h
    have h3 : ar .sub .f32 c c = qnan .f32 := by
      show ((S.sub c c).getD _) = _
      rw [Ieee.Format.sub, hr]
      show (Option.map S.write ((Ieee.Datum.infinity s).sum (Ieee.Datum.infinity (!s)))).getD _ = _
      cases s <;> rfl
    rw [h3] at h2
    exact absurd h2 (by decide +kernel)
theorem subF_notNaN {a b : Nat} (ha : fin a = true) (hb : fin b = true) : (S.read (subF a b)).isNaN = false := by
  obtain ⟨s, m, p, h1⟩ := fin_num ha
  obtain ⟨t, n, q, h2⟩ := fin_num hb
  show (S.read (((S.sub a b)).getD _)).isNaN = false
  rw [Ieee.Format.sub, h1, h2]
  cases hs : (Ieee.Datum.number s m p).sum (Ieee.Datum.number t n q).opposite with
  | none => cases hs
  | some z => exact write_not_nan S z (sum_not_nan hs)
theorem getD_snoc (A : List Nat) (x i : Nat) : (A ++ [x]).getD i 0 = if i < A.length then A.getD i 0 else if i = A.length then x else 0 := by
  by_cases h : i < A.length
  · rw [if_pos h]; simp [List.getElem?_append_left h]
  · rw [if_neg h]
    by_cases h2 : i = A.length
    · subst h2; simp
    · rw [if_neg h2]; simp [List.getElem?_eq_none (show (A ++ [x]).length ≤ i by simp; omega)]
theorem Zl.snoc {A B : List Nat} (h : Zl A B) {x y : Nat} (hx : x < 4294967296) (hy : y < 4294967296) (hz : zs x = zs y) (hf : fin x = true) : Zl (A ++ [x]) (B ++ [y]) := by
  refine ⟨by simp [h.1], fun i hi => ?_⟩
  rw [getD_snoc, getD_snoc, ← h.1]
  by_cases hi2 : i < A.length
  · rw [if_pos hi2, if_pos hi2]; exact h.2 i hi2
  · have : i = A.length := by simp at hi; omega
    rw [if_neg hi2, if_neg hi2, if_pos this, if_pos this]
    exact ⟨hx, hy, hz, hf⟩
theorem place_lt {wide i k p q : Nat} (hp : p ≤ i) (hq : q ≤ k) (hk : k < wide) (h : p < i ∨ q < k) : p * wide + q < i * wide + k := by
  rcases Nat.lt_or_ge p i with h1 | h1
  · have : (p + 1) * wide ≤ i * wide := Nat.mul_le_mul_right _ h1
    rw [Nat.add_mul] at this
    omega
  · have : p = i := by omega
    subst this
    omega
theorem before_lt {wide i k : Nat} (hk : k < wide) (p q : Int) (hp : p ≤ (i : Int)) (hq : q ≤ (k : Int)) (h : p < (i : Int) ∨ q < (k : Int)) (h0 : 0 ≤ p) (h1 : 0 ≤ q) : p.toNat * wide + q.toNat < i * wide + k :=
  place_lt (by omega) (by omega) hk (by omega)
theorem wCost_z {A B : List Nat} (h : Zl A B) (window : Int) {wide i k d e : Nat} (hk : k < wide) (hl : A.length = i * wide + k) (hd : d < 4294967296) (he : e < 4294967296) (hz : zs d = zs e) :
    wCost geI window A wide i k d < 4294967296 ∧ wCost geS window B wide i k e < 4294967296 ∧ zs (wCost geI window A wide i k d) = zs (wCost geS window B wide i k e) := by
  unfold wCost
  by_cases h0 : i + k = 0
  · rw [if_pos h0, if_pos h0]; exact ⟨hd, he, hz⟩
  · rw [if_neg h0, if_neg h0]
    rcases wThree_z h wide i k (fun p q h1 h2 h3 h4 h5 => by rw [hl]; exact before_lt hk p q h1 h2 h3 h4 h5) 3 with ⟨e1, e2⟩ | ⟨n, a, b, e1, e2, ha, hb, hzc, -⟩
    · rw [e1, e2]; exact ⟨show neg1 < _ by decide, show neg1 < _ by decide, rfl⟩
    · rw [e1, e2]
      dsimp only
      by_cases hw : window < farI i k
      · rw [if_pos hw, if_pos hw]; exact ⟨show neg1 < _ by decide, show neg1 < _ by decide, rfl⟩
      · rw [if_neg hw, if_neg hw]
        exact ⟨ar_lt _ _ _, ar_lt _ _ _, by rw [addF_zs a d, addF_zs b e, hzc, hz]⟩
def Dead (A : List Nat) : Prop := ∃ i, i < A.length ∧ fin (A.getD i 0) = false
theorem Dead.snoc {A : List Nat} (h : Dead A) (x : Nat) : Dead (A ++ [x]) := by
  obtain ⟨i, hi, hf⟩ := h
  exact ⟨i, by simp; omega, by rw [getD_snoc, if_pos hi]; exact hf⟩
theorem dead_snoc (A : List Nat) {x : Nat} (h : fin x = false) : Dead (A ++ [x]) := ⟨A.length, by simp, by rw [getD_snoc, if_neg (by omega), if_pos rfl]; exact h⟩
theorem Dead.no {A : List Nat} (h : Dead A) : allFin A = false := by
  obtain ⟨i, hi, hf⟩ := h
  cases ha : allFin A with
  | false => rfl
  | true =>
    have := List.all_eq_true.1 ha A[i] (List.getElem_mem hi)
    rw [List.getD_eq_getElem?_getD, List.getElem?_eq_getElem hi] at hf
    rw [show (some A[i]).getD 0 = A[i] from rfl, this] at hf
    cases hf
theorem Zl.yes {A B : List Nat} (h : Zl A B) : allFin A = true ∧ allFin B = true := by
  refine ⟨List.all_eq_true.2 fun c hc => ?_, List.all_eq_true.2 fun c hc => ?_⟩
  · obtain ⟨i, hi, rfl⟩ := List.getElem_of_mem hc
    have := (h.2 i hi).2.2.2
    rwa [List.getD_eq_getElem?_getD, List.getElem?_eq_getElem hi] at this
  · obtain ⟨i, hi, rfl⟩ := List.getElem_of_mem hc
    have h1 := h.2 i (by rw [h.1]; exact hi)
    have h2 := h1.2.2.2
    rw [fin_of_zs h1.2.2.1] at h2
    rwa [List.getD_eq_getElem?_getD, List.getElem?_eq_getElem hi] at h2
theorem fin_getD {cs : List Nat} (h : allFin cs = true) (i : Nat) : fin (cs.getD i 0) = true := by
  by_cases hi : i < cs.length
  · rw [List.getD_eq_getElem?_getD, List.getElem?_eq_getElem hi]
    exact List.all_eq_true.1 h _ (List.getElem_mem hi)
  · rw [List.getD_eq_getElem?_getD, List.getElem?_eq_none (by omega)]
    decide +kernel
theorem wList_z {cs ds : List Nat} (hc : allFin cs = true) (hd : allFin ds = true) (hn : 0 < ds.length) (window : Int) : ∀ t, Zl (wList szI geI window cs ds t) (wList szS geS window cs ds t) ∨ (Dead (wList szI geI window cs ds t) ∧ Dead (wList szS geS window cs ds t))
  | 0 => .inl ⟨rfl, fun i hi => by cases hi⟩
  | t + 1 => by
    have hk : t % ds.length < ds.length := Nat.mod_lt _ hn
    have ht : t = (t / ds.length) * ds.length + t % ds.length := by rw [Nat.mul_comm]; exact (Nat.div_add_mod _ _).symm
    rw [wList_at ht hk, wList_at ht hk]
    rcases wList_z hc hd hn window t with h | ⟨h1, h2⟩
    · obtain ⟨z1, z2, z3⟩ := sz_z (ar_lt .sub (cs.getD (t / ds.length) 0) (ds.getD (t % ds.length) 0)) (subF_notNaN (fin_getD hc _) (fin_getD hd _))
      obtain ⟨y1, y2, y3⟩ := wCost_z h window hk (by rw [wList_length]; exact ht) z2 z3 z1
      cases hf : fin (wCost geI window (wList szI geI window cs ds t) ds.length (t / ds.length) (t % ds.length) (szI (subF (cs.getD (t / ds.length) 0) (ds.getD (t % ds.length) 0))))
      · refine .inr ⟨dead_snoc _ hf, dead_snoc _ ?_⟩
        exact (fin_of_zs y3).symm.trans hf
      · exact .inl (h.snoc y1 y2 y3 hf)
    · exact .inr ⟨h1.snoc _, h2.snoc _⟩
theorem wBack_z {A B : List Nat} (h : Zl A B) (wide : Nat) : ∀ (n : Nat) (i k : Int), (∀ p q : Int, p ≤ i → q ≤ k → 0 ≤ p → 0 ≤ q → p.toNat * wide + q.toNat < A.length) → wBack geI A wide n i k = wBack geS B wide n i k
  | 0, _, _, _ => rfl
  | n + 1, i, k, hp => by
    rw [wBack, wBack]
    rcases wThree_z h wide i k (fun p q h1 h2 _ h4 h5 => hp p q h1 h2 h4 h5) 3 with ⟨e1, e2⟩ | ⟨m, a, b, e1, e2, -⟩
    · rw [e1, e2]
    · rw [e1, e2]
      dsimp only
      rw [wBack_z h wide n _ _ fun p q h1 h2 h3 h4 => hp p q (by unfold candI at h1; split at h1 <;> omega) (by unfold candK at h2; split at h2 <;> omega) h3 h4]
theorem wBack_length (ge : Nat → Bool) (C : List Nat) (wide : Nat) : ∀ (n : Nat) (i k : Int), (wBack ge C wide n i k).length ≤ 2 * n
  | 0, _, _ => Nat.le_refl _
  | n + 1, i, k => by
    rw [wBack, List.length_append]
    have : ([i, k] : List Int).length = 2 := rfl
    cases h : wThree ge C wide i k 3 with
    | none => simp; omega
    | some b =>
      have := wBack_length ge C wide n (candI b.1 i) (candK b.1 k)
      dsimp only
      omega
/-- The answers. -/
def wpOk (cs ds : List Nat) (window : Int) : Bool := series cs && series ds && decide (0 ≤ window) && decide (window ≤ 96)
def wpC (sz : Nat → Nat) (ge : Nat → Bool) (cs ds : List Nat) (window : Int) : List Nat := wList sz ge window cs ds (cs.length * ds.length)
def wpYes (sz : Nat → Nat) (ge : Nat → Bool) (cs ds : List Nat) (window : Int) : Bool := wpOk cs ds window && allFin (wpC sz ge cs ds window) && !fc .lss .f32 ((wpC sz ge cs ds window).getD (cs.length * ds.length - 1) 0) 0
def wayQ (sz : Nat → Nat) (ge : Nat → Bool) (cs ds : List Nat) (window : Int) : List Int × Bool :=
  if wpYes sz ge cs ds window then (wBack ge (wpC sz ge cs ds window) ds.length (cs.length + ds.length) ((cs.length : Int) - 1) ((ds.length : Int) - 1), true) else ([], false)
theorem wayQ_short (sz : Nat → Nat) (ge : Nat → Bool) (cs ds : List Nat) (window : Int) : (wayQ sz ge cs ds window).1.length < 1000000 := by
  unfold wayQ
  split
  · rename_i h
    have hl := wBack_length ge (wpC sz ge cs ds window) ds.length (cs.length + ds.length) ((cs.length : Int) - 1) ((ds.length : Int) - 1)
    simp only [wpYes, wpOk, series, Bool.and_eq_true, decide_eq_true_eq] at h
    dsimp only
    omega
  · decide
theorem wayQ_same (cs ds : List Nat) (window : Int) : wayQ szS geS cs ds window = wayQ szI geI cs ds window := by
  cases ho : wpOk cs ds window
  · rw [wayQ, wayQ, wpYes, wpYes, ho]; rfl
  · have ho2 := ho
    simp only [wpOk, series, Bool.and_eq_true, decide_eq_true_eq] at ho2
    obtain ⟨⟨⟨⟨⟨h1, h2⟩, h3⟩, ⟨h4, h5⟩, h6⟩, h7⟩, h8⟩ := ho2
    rcases wList_z h3 h6 h4 window (cs.length * ds.length) with h | ⟨g1, g2⟩
    · have hl : (wpC szI geI cs ds window).length = cs.length * ds.length := wList_length ..
      have hpos : cs.length * ds.length - 1 < (wpC szI geI cs ds window).length := by
        rw [hl]
        have : 1 * 1 ≤ cs.length * ds.length := Nat.mul_le_mul h1 h4
        omega
      have h' : Zl (wpC szI geI cs ds window) (wpC szS geS cs ds window) := h
      obtain ⟨a1, a2, a3, a4⟩ := h'.2 _ hpos
      obtain ⟨y1, y2⟩ := h'.yes
      have hb : wBack geI (wpC szI geI cs ds window) ds.length (cs.length + ds.length) ((cs.length : Int) - 1) ((ds.length : Int) - 1) = wBack geS (wpC szS geS cs ds window) ds.length (cs.length + ds.length) ((cs.length : Int) - 1) ((ds.length : Int) - 1) := wBack_z h' ds.length _ _ _ fun p q p1 q1 p0 q0 => by
        rw [hl]
        have e : cs.length * ds.length = (cs.length - 1) * ds.length + (ds.length - 1) + 1 := by
          obtain ⟨n, hn⟩ : ∃ n, cs.length = n + 1 := ⟨cs.length - 1, by omega⟩
          rw [hn, Nat.add_sub_cancel, Nat.add_mul]; omega
        rw [e]
        rcases Nat.lt_or_ge p.toNat (cs.length - 1) with hlt | hge
        · exact Nat.lt_succ_of_lt (place_lt (by omega) (by omega) (by omega) (.inl hlt))
        · rw [show p.toNat = cs.length - 1 by omega]; omega
      unfold wayQ wpYes
      rw [ho, y1, y2, hb, fcl_key a1 (by decide) a4 (by decide +kernel), fcl_key a2 (by decide) (by rw [← fin_of_zs a3]; exact a4) (by decide +kernel), fkey_of_zs a3]
    · have e1 : allFin (wpC szI geI cs ds window) = false := g1.no
      have e2 : allFin (wpC szS geS cs ds window) = false := g2.no
      unfold wayQ wpYes
      rw [ho, e1, e2]
      rfl
/-- A place that is reached has one before it. -/
theorem wThree_prefix (ge : Nat → Bool) (A B : List Nat) (wide : Nat) (i k : Int) (h : ∀ p q : Int, p ≤ i → q ≤ k → (p < i ∨ q < k) → 0 ≤ p → 0 ≤ q → A.getD (p.toNat * wide + q.toNat) 0 = B.getD (p.toNat * wide + q.toNat) 0) : ∀ n, wThree ge A wide i k n = wThree ge B wide i k n
  | 0 => rfl
  | n + 1 => by
    have e : wAt A wide (candI n i) (candK n k) = wAt B wide (candI n i) (candK n k) := by
      unfold wAt
      split
      · rfl
      · exact h _ _ (by unfold candI; split <;> omega) (by unfold candK; split <;> omega) (by unfold candI candK; split <;> split <;> omega) (by omega) (by omega)
    rw [wThree, wThree, wThree_prefix ge A B wide i k h n, wVal, wVal, e]
theorem wList_get {sz : Nat → Nat} {ge : Nat → Bool} {window : Int} {cs ds : List Nat} {i t : Nat} (hi : i < t) : ∀ {n : Nat}, t ≤ n → (wList sz ge window cs ds n).getD i 0 = (wList sz ge window cs ds t).getD i 0
  | 0, h => by omega
  | n + 1, h => by
    rcases Nat.lt_or_ge n t with h1 | h1
    · have : t = n + 1 := by omega
      rw [this]
    · rw [wList, getD_snoc, wList_length, if_pos (by omega)]
      exact wList_get hi h1
theorem wThree_reached {sz : Nat → Nat} {ge : Nat → Bool} (hg : ge neg1 = false) {window : Int} {cs ds : List Nat} {i k : Nat} (hi : i < cs.length) (hk : k < ds.length) (h0 : i + k ≠ 0) (h : ge ((wpC sz ge cs ds window).getD (i * ds.length + k) 0) = true) :
    ∃ b, wThree ge (wpC sz ge cs ds window) ds.length i k 3 = some b := by
  have hlt : i * ds.length + k < cs.length * ds.length := by
    have : (i + 1) * ds.length ≤ cs.length * ds.length := Nat.mul_le_mul_right _ hi
    rw [Nat.add_mul] at this
    omega
  have e1 : wThree ge (wpC sz ge cs ds window) ds.length i k 3 = wThree ge (wList sz ge window cs ds (i * ds.length + k)) ds.length i k 3 := wThree_prefix _ _ _ _ _ _ (fun p q p1 q1 h1 p0 q0 => by
    have := before_lt hk p q p1 q1 h1 p0 q0
    exact wList_get this (by omega)) 3
  have e2 : (wpC sz ge cs ds window).getD (i * ds.length + k) 0 = wCost ge window (wList sz ge window cs ds (i * ds.length + k)) ds.length i k (sz (subF (cs.getD i 0) (ds.getD k 0))) := by
    rw [wpC, wList_get (Nat.lt_succ_self _) hlt, wList_at rfl hk, getD_snoc, wList_length, if_neg (by omega), if_pos rfl]
  rw [e1]
  rw [e2, wCost, if_neg h0] at h
  cases hw : wThree ge (wList sz ge window cs ds (i * ds.length + k)) ds.length i k 3 with
  | none => rw [hw] at h; dsimp only at h; rw [hg] at h; cases h
  | some b => exact ⟨b, rfl⟩
theorem wThree_origin (ge : Nat → Bool) (hg : ge neg1 = false) (C : List Nat) (wide : Nat) : wThree ge C wide 0 0 3 = none := by
  have e : ∀ n, wAt C wide (candI n 0) (candK n 0) = neg1 := by
    intro n
    unfold wAt
    rw [if_pos]
    unfold candI candK
    split <;> split <;> omega
  simp only [wThree, wVal, e, hg]
  rfl
/-- Where what is best lies. -/
theorem wThree_place {ge : Nat → Bool} (hg : ge neg1 = false) {C : List Nat} {wide : Nat} {i k : Int} {n : Nat} {b : Nat × Nat} (h : wThree ge C wide i k n = some b) : 0 ≤ candI b.1 i ∧ 0 ≤ candK b.1 k ∧ candI b.1 i ≤ i ∧ candK b.1 k ≤ k ∧ candI b.1 i + candK b.1 k < i + k := by
  obtain ⟨h1, h2, h3⟩ := wThree_some h
  have h4 : ¬ (candI b.1 i < 0 ∨ candK b.1 k < 0) := by
    intro hh
    rw [h2, wAt, if_pos hh, hg] at h3
    cases h3
  have a1 : candI b.1 i ≤ i := by unfold candI; split <;> omega
  have a2 : candK b.1 k ≤ k := by unfold candK; split <;> omega
  have a3 : candI b.1 i + candK b.1 k < i + k := by
    unfold candI candK
    by_cases x : b.1 = 1
    · rw [if_pos x, if_neg (by omega)]; omega
    · rw [if_neg x]; split <;> omega
  exact ⟨by omega, by omega, a1, a2, a3⟩

end Go.Proofs.Ytkkomajokdlkeaa
