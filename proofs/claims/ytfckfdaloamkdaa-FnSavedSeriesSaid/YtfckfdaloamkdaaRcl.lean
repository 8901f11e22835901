/- What is stored is read back: plain. -/
import Derived.Test.YtfckfdaloamkdaaK138
import Derived.Test.YtfckfdaloamkdaaK76
namespace Go.Proofs.Ytfckfdaloamkdaa
set_option linter.unusedSimpArgs false
set_option linter.unusedVariables false
set_option maxRecDepth 100000
set_option maxHeartbeats 4000000
open Go.RowKit
/-- The bytes of one, of a list. -/
def stB (x : Sd) : List UInt8 := storeB x.1 x.2.1 x.2.2
def catB (L : List Sd) : List UInt8 := L.flatMap stB
/-- Numbers are as they are written. -/
def cnN (x : Sd) : Prop := ∀ n ∈ x.2.2, n < 4294967296 ∧ cn .f32 n = n
def okS (x : Sd) : Prop := savedOk x.1 x.2.1 x.2.2 = true ∧ cnN x
theorem cnN_map (xs : List Nat) (h : ∀ x ∈ xs, x < 4294967296) (s : ByteArray) (d : Int) : cnN (s, d, xs.map (cn .f32)) := by
  intro n hn
  obtain ⟨m, hm, rfl⟩ := List.mem_map.1 hn
  exact ⟨cn_lt (h m hm), cn_cn _ _⟩
theorem cnN_sb {w : World} {v : Value} {cs : List Nat} (h : SB w v cs) (s : ByteArray) (d : Int) : cnN (s, d, cs) := by
  obtain ⟨ao, c, xs, -, rfl, -, h4, -⟩ := h
  exact cnN_map xs h4 s d
theorem cnN_svl {w : World} {v : Value} {L : List Sd} (h : SVL w v L) : ∀ x ∈ L, cnN x := by
  intro x hx
  obtain ⟨ao, c, -, -, h3⟩ := h
  obtain ⟨i, hi, rfl⟩ := List.getElem_of_mem hx
  obtain ⟨b, off, u, -, -, -, -, -, e6, -⟩ := h3 i hi
  have e : L.getD i d0 = L[i] := by rw [List.getD_eq_getElem?_getD, List.getElem?_eq_getElem hi]; rfl
  rw [e] at e6
  exact cnN_sb e6 _ _
theorem map_cn {cs : List Nat} (h : ∀ n ∈ cs, n < 4294967296 ∧ cn .f32 n = n) : cs.map (cn .f32) = cs := by
  rw [List.map_congr_left (g := id) fun n hn => (h n hn).2, List.map_id]
theorem u8_nat {n : Nat} (h : n < 256) : (u8 (n : Int)).toNat = n := by
  have := u8_val (n : Int)
  omega
theorem leV_leB : ∀ (k : Nat) (n : Int), 0 ≤ n → n < 256 ^ k → (leV (leB n k) : Int) = n
  | 0, n, h0, h1 => by
    have : n = 0 := by simp at h1; omega
    rw [this]; rfl
  | k + 1, n, h0, h1 => by
    have e : leB n (k + 1) = leB n k ++ [u8 (n / 256 ^ k)] := rfl
    rw [e, leV_snoc, leB_length]
    have hp : (0 : Int) < 256 ^ k := Int.pow_pos (by decide)
    have hd := Int.emod_add_mul_ediv n (256 ^ k)
    have hm0 := Int.emod_nonneg n (show (256 ^ k : Int) ≠ 0 by omega)
    have hm1 := Int.emod_lt_of_pos n hp
    have hq0 : 0 ≤ n / 256 ^ k := Int.ediv_nonneg h0 (by omega)
    have hq1 : n / 256 ^ k < 256 := Int.ediv_lt_of_lt_mul hp (by rw [Int.pow_succ] at h1; rw [Int.mul_comm]; exact h1)
    have hq : ((u8 (n / 256 ^ k)).toNat : Int) = n / 256 ^ k := by rw [u8_val]; exact Int.emod_eq_of_lt hq0 hq1
    have hl : leB n k = leB (n % 256 ^ k) k := leB_mod k n k (Nat.le_refl _)
    have ih := leV_leB k (n % 256 ^ k) hm0 hm1
    rw [hl, Int.natCast_add, ih, Int.natCast_mul, hq]
    have : ((256 ^ k : Nat) : Int) = (256 : Int) ^ k := by simp
    rw [this]
    omega
where
  leB_mod : ∀ (k : Nat) (n : Int) (m : Nat), k ≤ m → leB n k = leB (n % 256 ^ m) k
    | 0, _, _, _ => rfl
    | k + 1, n, m, h => by
      show leB n k ++ [_] = leB _ k ++ [_]
      rw [leB_mod k n m (by omega)]
      congr 2
      apply UInt8.toNat_inj.1
      have h1 := u8_val (n / 256 ^ k)
      have h2 := u8_val (n % 256 ^ m / 256 ^ k)
      have hp : (0 : Int) < 256 ^ k := Int.pow_pos (by decide)
      have e : (n / 256 ^ k) % 256 = (n % 256 ^ m / 256 ^ k) % 256 := by
        obtain ⟨j, rfl⟩ : ∃ j, m = k + 1 + j := ⟨m - (k + 1), by omega⟩
        have hd := Int.emod_add_mul_ediv n (256 ^ (k + 1 + j))
        generalize n % 256 ^ (k + 1 + j) = r at hd ⊢
        generalize n / 256 ^ (k + 1 + j) = q at hd
        rw [← hd, Int.pow_add, Int.pow_succ, show r + 256 ^ k * 256 * 256 ^ j * q = r + 256 ^ k * (256 * (256 ^ j * q)) by simp only [Int.mul_assoc], Int.add_mul_ediv_left _ _ (by omega), Int.add_mul_emod_self_left]
      omega
/-- The head's parts. -/
theorem stB_eq (x : Sd) : stB x = [83, 69, 82, 49] ++ (u8 x.1.size :: (x.1.data.toList ++ (leB (x.2.1 + 1000000) 4 ++ (u8 x.2.2.length :: (numsB x.2.2 x.2.2.length ++ leB (ckL 0 (bodyB x.1 x.2.1 x.2.2)) 2))))) := by
  simp [stB, storeB, bodyB, headB]
theorem p256_4' : (256 : Int) ^ 4 = 4294967296 := by decide
theorem numsB_get (cs : List Nat) : ∀ (n k : Nat), k < n → ((numsB cs n).drop (4 * k)).take 4 = leB (cs.getD k 0 : Nat) 4
  | 0, k, h => by omega
  | n + 1, k, h => by
    have hl := numsB_length cs n
    show ((numsB cs n ++ leB (cs.getD n 0 : Nat) 4).drop (4 * k)).take 4 = _
    by_cases hk : k < n
    · rw [List.drop_append_of_le_length (by omega), List.take_append_of_le_length (by rw [List.length_drop]; omega)]
      exact numsB_get cs n k hk
    · obtain rfl : k = n := by omega
      rw [List.drop_append, List.drop_eq_nil_of_le (by omega), hl, Nat.sub_self, List.nil_append, List.drop_zero, List.take_of_length_le (by rw [leB_length]; exact Nat.le_refl _)]
theorem numsV_stB {l : List UInt8} {a : Nat} {cs : List Nat} (hcs : ∀ n ∈ cs, n < 4294967296) {r : List UInt8} (h : l.drop a = numsB cs cs.length ++ r) : ∀ n, n ≤ cs.length → numsV l a n = cs.take n
  | 0, _ => rfl
  | n + 1, hn => by
    have hl := numsB_length cs cs.length
    rw [numsV, numsV_stB hcs h n (by omega), ← List.drop_drop, h, List.drop_append_of_le_length (by omega), List.take_append_of_le_length (by rw [List.length_drop]; omega), numsB_get cs _ n (by omega)]
    have hg : cs.getD n 0 = cs[n]'(by omega) := by rw [List.getD_eq_getElem?_getD, List.getElem?_eq_getElem (by omega)]; rfl
    have hv := leV_leB 4 (cs.getD n 0 : Nat) (by omega) (by have := hcs _ (List.getElem_mem (show n < cs.length by omega)); rw [hg, p256_4']; omega)
    have hv : leV (leB (cs.getD n 0 : Nat) 4) = cs.getD n 0 := by omega
    rw [hv, hg, List.take_succ_eq_append_getElem (by omega)]
theorem p256_4 : (256 : Int) ^ 4 = 4294967296 := by decide
/-- What is stored in front is read. -/
theorem stB_parts {x : Sd} (hx : okS x) (r : List UInt8) : ∃ N : Nat, N = x.1.size ∧ N ≤ 8 ∧ x.2.2.length ≤ 96 ∧ (stB x).length = 5 + N + 5 + 4 * x.2.2.length + 2 ∧ ((stB x ++ r).getD 4 0).toNat = N ∧ ((stB x ++ r).drop 5).take N = x.1.data.toList ∧
    (leV (((stB x ++ r).drop (5 + N)).take 4) : Int) - 1000000 = x.2.1 ∧ ((stB x ++ r).getD (5 + N + 4) 0).toNat = x.2.2.length ∧ numsV (stB x ++ r) (5 + N + 5) x.2.2.length = x.2.2 := by
  obtain ⟨f1, f2, f3, f4⟩ := savedOk_facts hx.1
  obtain ⟨s, d, cs⟩ := x
  simp only at f1 f2 f3 f4 ⊢
  refine ⟨s.size, rfl, f1, f4, by rw [stB, storeB_length]; simp only; omega, ?_⟩
  have hsz : s.data.toList.length = s.size := by simp
  obtain ⟨t, ht⟩ : ∃ t, t = leB (ckL 0 (bodyB s d cs)) 2 ++ r := ⟨_, rfl⟩
  have e0 : stB (s, d, cs) ++ r = [83, 69, 82, 49] ++ (u8 s.size :: (s.data.toList ++ (leB (d + 1000000) 4 ++ (u8 cs.length :: (numsB cs cs.length ++ t))))) := by
    rw [stB_eq, ht]; simp
  have e5 : (stB (s, d, cs) ++ r).drop 5 = s.data.toList ++ (leB (d + 1000000) 4 ++ (u8 cs.length :: (numsB cs cs.length ++ t))) := by rw [e0]; rfl
  have eN : (stB (s, d, cs) ++ r).drop (5 + s.size) = leB (d + 1000000) 4 ++ (u8 cs.length :: (numsB cs cs.length ++ t)) := by
    rw [← List.drop_drop, e5, List.drop_append, List.drop_eq_nil_of_le (by omega), hsz, Nat.sub_self]; rfl
  have eN4 : (stB (s, d, cs) ++ r).drop (5 + s.size + 4) = u8 cs.length :: (numsB cs cs.length ++ t) := by
    rw [← List.drop_drop, eN, List.drop_append, List.drop_eq_nil_of_le (by rw [leB_length]; exact Nat.le_refl _), leB_length, Nat.sub_self]; rfl
  have eN5 : (stB (s, d, cs) ++ r).drop (5 + s.size + 5) = numsB cs cs.length ++ t := by
    rw [show 5 + s.size + 5 = (5 + s.size + 4) + 1 by omega, ← List.drop_drop, eN4]; rfl
  refine ⟨?_, ?_, ?_, ?_, ?_⟩
  · rw [e0]
    show (u8 s.size).toNat = s.size
    exact u8_nat (by omega)
  · rw [e5, List.take_append_of_le_length (by omega), List.take_of_length_le (by omega)]
  · rw [eN, List.take_append_of_le_length (by rw [leB_length]; exact Nat.le_refl _), List.take_of_length_le (by rw [leB_length]; exact Nat.le_refl _), leV_leB 4 _ (by omega) (by rw [p256_4]; omega)]
    omega
  · have hg : ∀ (l : List UInt8) (k : Nat) (b : UInt8) (q : List UInt8), l.drop k = b :: q → l.getD k 0 = b := by
      intro l k b q h
      have : l[k]? = some b := by rw [← List.head?_drop, h]; rfl
      rw [List.getD_eq_getElem?_getD, this]; rfl
    rw [hg _ _ _ _ eN4]
    exact u8_nat (by omega)
  · rw [numsV_stB (fun n hn => (hx.2 n hn).1) eN5 cs.length (Nat.le_refl _), List.take_of_length_le (Nat.le_refl _)]
theorem lsQ_stB {x : Sd} (hx : okS x) (r : List UInt8) : lsQ (stB x ++ r) = some (x.1, x.2.1, x.2.2, (stB x).length) := by
  obtain ⟨N, hN, h8, h96, hlen, g4, gn, gd, gc, gs⟩ := stB_parts hx r
  have hl : (stB x ++ r).length = (stB x).length + r.length := List.length_append
  unfold lsQ ldP
  rw [if_neg (by omega), g4, if_neg (by omega), gc, if_neg (by omega)]
  rw [Option.bind_some, ldK, gn, gd, gs, map_cn (fun n hn => hx.2 n hn), data_tx]
  rw [if_pos ⟨hx.1, by
    show stB x = _
    rw [← hlen, List.take_append_of_le_length (Nat.le_refl _), List.take_of_length_le (Nat.le_refl _)]⟩, hlen]
/-- Of less nothing is read. -/
theorem lsQ_cut {x : Sd} (hx : okS x) {c : Nat} (hc : c < (stB x).length) : lsQ ((stB x).take c) = none := by
  obtain ⟨N, hN, h8, h96, hlen, g4, gn, gd, gc, gs⟩ := stB_parts hx []
  rw [List.append_nil] at g4 gc
  have hl : ((stB x).take c).length = c := by rw [List.length_take]; omega
  have hg : ∀ k, k < c → ((stB x).take c).getD k 0 = (stB x).getD k 0 := by
    intro k hk
    rw [List.getD_eq_getElem?_getD, List.getD_eq_getElem?_getD, List.getElem?_take, if_pos hk]
  unfold lsQ ldP
  by_cases h5 : c < 5
  · rw [if_pos (by omega)]; rfl
  · rw [if_neg (by omega), hg 4 (by omega), g4]
    by_cases h10 : c < 5 + N + 5
    · rw [if_pos (by omega)]; rfl
    · rw [if_neg (by omega), hg (5 + N + 4) (by omega), gc, if_pos (by omega)]; rfl
theorem lsQ_nil : lsQ [] = none := rfl
theorem rcA_cat : ∀ (L : List Sd) (r : List UInt8) (n : Nat), (∀ x ∈ L, okS x) → L.length ≤ n → rcA (catB L ++ r) n = (L ++ (rcA r (n - L.length)).1, (catB L).length + (rcA r (n - L.length)).2)
  | [], r, n, _, _ => by simp [catB]
  | x :: L, r, 0, _, h => by simp at h
  | x :: L, r, n + 1, h, hn => by
    have hx := h x (by simp)
    have e : catB (x :: L) ++ r = stB x ++ (catB L ++ r) := by simp [catB]
    have ih := rcA_cat L r n (fun y hy => h y (by simp [hy])) (by simpa using hn)
    rw [e, rcA, lsQ_stB hx]
    simp only [List.drop_left]
    rw [ih]
    simp [map_cn (fun n hn => hx.2 n hn), catB, Nat.add_assoc]
theorem rcA_back : ∀ (n : Nat) (l : List UInt8), catB (rcA l n).1 = l.take (rcA l n).2 ∧ (rcA l n).2 ≤ l.length ∧ (rcA l n).1.length ≤ n ∧ ∀ x ∈ (rcA l n).1, savedOk x.1 x.2.1 x.2.2 = true
  | 0, _ => by simp [rcA, catB]
  | n + 1, l => by
    rw [rcA]
    cases h : lsQ l with
    | none => simp [catB]
    | some q =>
      obtain ⟨s, d, ns, m⟩ := q
      obtain ⟨i1, i2, i3, i4⟩ := rcA_back n (l.drop m)
      have hm := lsQ_end h
      have hs := lsQ_store h
      rw [List.length_drop] at i2
      refine ⟨?_, by simp only; omega, by simp only [List.length_cons]; omega, fun x hx => ?_⟩
      · show stB _ ++ catB _ = _
        rw [i1, stB, hs]
        simp only
        rw [List.take_add]
      · rcases List.mem_cons.1 hx with rfl | hx
        · exact lsQ_ok h
        · exact i4 x hx
where
  lsQ_store {l : List UInt8} {s : ByteArray} {d : Int} {ns : List Nat} {m : Nat} (h : lsQ l = some (s, d, ns, m)) : storeB s d (ns.map (cn .f32)) = l.take m := by
    unfold lsQ at h
    cases hp : ldP l with
    | none => rw [hp] at h; cases h
    | some q =>
      obtain ⟨nm, d', ns', e⟩ := q
      rw [hp] at h
      have h2 : (if savedOk (tx nm) ((d' : Int) - 1000000) (ns'.map (cn .f32)) = true ∧ storeB (tx nm) ((d' : Int) - 1000000) (ns'.map (cn .f32)) = l.take e then some (tx nm, (d' : Int) - 1000000, ns', e) else none) = some (s, d, ns, m) := h
      split at h2
      · rename_i hh
        injection h2 with h2
        injection h2 with e1 h2
        injection h2 with e2 h2
        injection h2 with e3 h2
        rw [← e1, ← e2, ← e3, ← h2]
        exact hh.2
      · cases h2
theorem catB_take_succ {L : List Sd} {k : Nat} (h : k < L.length) : catB (L.take (k + 1)) = catB (L.take k) ++ stB L[k] := by
  rw [List.take_succ_eq_append_getElem h, catB, List.flatMap_append]; simp [catB]
/-- What StoreAll returns. -/
theorem svAcc_cat (L : List Sd) : ∀ k, k ≤ L.length → svAcc L k = tx (catB (L.take k))
  | 0, _ => rfl
  | k + 1, h => by
    have hg : L.getD k d0 = L[k]'(by omega) := by rw [List.getD_eq_getElem?_getD, List.getElem?_eq_getElem (by omega)]; rfl
    rw [svAcc, svAcc_cat L k (by omega), hg, catB_take_succ (by omega)]
    show tx _ ++ tx _ = _
    rw [tx_append]
    rfl
theorem svOk_all {L : List Sd} (h : ∀ x ∈ L, savedOk x.1 x.2.1 x.2.2 = true) : ∀ k, k ≤ L.length → svOk L k = true
  | 0, _ => rfl
  | k + 1, hk => by
    have hg : L.getD k d0 = L[k]'(by omega) := by rw [List.getD_eq_getElem?_getD, List.getElem?_eq_getElem (by omega)]; rfl
    rw [svOk, svOk_all h k (by omega), hg, h _ (List.getElem_mem _)]
    rfl
theorem svAll_cat {L : List Sd} (h : ∀ x ∈ L, savedOk x.1 x.2.1 x.2.2 = true) (h8 : L.length ≤ 8) : svAllQ L = (tx (catB L), true) := by
  unfold svAllQ
  rw [svOk_all h _ (Nat.le_refl _), decide_eq_true h8, svAcc_cat L _ (Nat.le_refl _), List.take_of_length_le (Nat.le_refl _)]
  rfl
theorem svAll_no {L : List Sd} (h8 : ¬ L.length ≤ 8) : svAllQ L = (⟨#[]⟩, false) := by
  unfold svAllQ
  rw [decide_eq_false h8]
  rfl
theorem catB_len_le : ∀ L : List Sd, (∀ x ∈ L, okS x) → (catB L).length ≤ 500 * L.length
  | [], _ => by simp [catB]
  | x :: L, h => by
    obtain ⟨f1, -, -, f4⟩ := savedOk_facts (h x (by simp)).1
    have ih := catB_len_le L (fun y hy => h y (by simp [hy]))
    have : (catB (x :: L)).length = (stB x).length + (catB L).length := by simp [catB]
    rw [this, stB, storeB_length, List.length_cons]
    omega
theorem catB_split (L : List Sd) (k : Nat) : catB L = catB (L.take k) ++ catB (L.drop k) := by
  rw [catB, catB, catB, ← List.flatMap_append, List.take_append_drop]
theorem catB_mono (L : List Sd) {k n : Nat} (h : k ≤ n) : (catB (L.take k)).length ≤ (catB (L.take n)).length := by
  have h1 := catB_split (L.take n) k
  rw [List.take_take, Nat.min_eq_left h] at h1
  rw [h1, List.length_append]
  omega
theorem loQ_stB {x : Sd} (hx : okS x) : loQ (tx (stB x)) = some (x.1, x.2.1, x.2.2) := by
  have h := lsQ_stB hx []
  rw [List.append_nil] at h
  unfold loQ
  rw [tx_data, h]
  simp only [tx_size, if_true]

end Go.Proofs.Ytfckfdaloamkdaa
