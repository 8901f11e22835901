/- Contracts and a plain law: walks over eighths. -/
import Derived.Test.YtaplnfdlcihhpaaK12
import Derived.Test.YtaplnfdlcihhpaaK39
import Derived.Test.YtaplnfdlcihhpaaOpen3
namespace Go.Proofs.Ytaplnfdlcihhpaa
set_option maxRecDepth 100000
set_option maxHeartbeats 4000000
open Go.RowKit
attribute [local go_sem] run_store_float run_store_complex alloc_drewN setCell_drewN


def rowK (s0 s1 cu cd n : Nat) (c : List Nat) : Nat → List Nat → (List Nat → Bool) → Bool
  | 0, acc, f => f acc
  | i + 1, acc, f => seqN (rcCellG s0 s1 cu cd n c i) fun v => rowK s0 s1 cu cd n c i (v :: acc) f
theorem rowK_eq (cu cd n : Nat) (c : List Nat) (i : Nat) (acc : List Nat) (f : List Nat → Bool) : rowK (rcStay cu cd 0) (rcStay cu cd 1) cu cd n c i acc f = f (rcRow false cu cd n c i ++ acc) := by
  induction i generalizing acc with
  | zero => rfl
  | succ i ih => rw [rowK, seqN_eq, ih, rcRow_succ, List.append_assoc, rcCellG_eq]; rfl
def rcEndG (cu n : Nat) (c : List Nat) (e : Nat) : Nat := seqN (mulG (c.getD (n - 1) 0) cu) fun x => addH e x
theorem rcEndG_eq (cu n : Nat) (c : List Nat) (e : Nat) : rcEndG cu n c e = rcEnd cu n c e := by unfold rcEndG rcEnd; rw [seqN_eq, mulG_eq, addH_eq]
/-- What a round asks of a chance. -/
def wkTest (n k e before : Nat) : Bool := fin e && !fc .lss .f32 e before && !fc .gtr .f64 (wd e) (cn .f64 4607186922399644778) && (decide (n ≤ k) || !fc .neq .f32 e (cn .f32 0))
def wkRun (s0 s1 cu cd n : Nat) : Nat → Nat → List Nat → Nat → Nat → Bool
  | 0, _, _, _, _ => true
  | m + 1, k, c, e, before => wkTest n k e before && seqN (rcEndG cu n c e) fun e2 => rowK s0 s1 cu cd n c n [] fun c2 => wkRun s0 s1 cu cd n m (k + 1) c2 e2 e
theorem wkRun_eq (cu cd n : Nat) (m k before : Nat) (h : wkRun (rcStay cu cd 0) (rcStay cu cd 1) cu cd n m k (rcAt false cu cd n k).1 (rcAt false cu cd n k).2 before = true) :
    ∀ j, j < m → wkTest n (k + j) (rcAt false cu cd n (k + j)).2 (if j = 0 then before else (rcAt false cu cd n (k + j - 1)).2) = true := by
  induction m generalizing k before with
  | zero => intro j hj; omega
  | succ m ih =>
    rw [wkRun, Bool.and_eq_true, seqN_eq, rowK_eq, List.append_nil, rcEndG_eq] at h
    intro j hj
    rcases j with _ | j
    · exact h.1
    · have := ih (k + 1) _ h.2 j (by omega)
      rw [if_neg (by omega)]
      rw [show k + (j + 1) = k + 1 + j by omega]
      rcases j with _ | j
      · exact this
      · rw [if_neg (by omega)] at this
        exact this
def wkU (b : Nat) : Nat := ar .quo .f32 (fI ((b : Int) + 1)) 1098907648
def wkD (b : Nat) : Nat := ar .quo .f32 (fI (b : Int)) 1098907648
def gapF (a b : Nat) : Nat := if fc .lss .f64 a b then ar .sub .f64 b a else ar .sub .f64 a b
def rlK (cu cd : Nat) : Nat → Nat → Nat → (Nat → Bool) → Bool
  | 0, _, s, f => f s
  | m + 1, x, s, f => seqN (divF (addF one (mulF cd x)) cu) fun x2 => seqN (addF s x2) fun s2 => rlK cu cd m x2 s2 f
theorem iterN_in {α : Type} (f : α → α) (n : Nat) (a : α) : iterN f n (f a) = f (iterN f n a) := by
  induction n with
  | zero => rfl
  | succ n ih => show f (iterN f n (f a)) = _; rw [ih]; rfl
theorem rlK_eq (cu cd m : Nat) (x s : Nat) (f : Nat → Bool) : rlK cu cd m x s f = f (iterN (rlStep cu cd) m (x, s)).2 := by
  induction m generalizing x s with
  | zero => rfl
  | succ m ih =>
    rw [rlK, seqN_eq, seqN_eq, ih]
    show f (iterN (rlStep cu cd) m (rlStep cu cd (x, s))).2 = _
    rw [iterN_in]; rfl
def rcK (s0 s1 cu cd n : Nat) : Nat → List Nat → Nat → (Nat → Bool) → Bool
  | 0, _, e, f => f e
  | m + 1, c, e, f => seqN (rcEndG cu n c e) fun e2 => rowK s0 s1 cu cd n c n [] fun c2 => rcK s0 s1 cu cd n m c2 e2 f
theorem rcK_eq (cu cd n m k : Nat) (f : Nat → Bool) : rcK (rcStay cu cd 0) (rcStay cu cd 1) cu cd n m (rcAt false cu cd n k).1 (rcAt false cu cd n k).2 f = f (rcAt false cu cd n (k + m)).2 := by
  induction m generalizing k with
  | zero => rfl
  | succ m ih =>
    rw [rcK, seqN_eq, rowK_eq, List.append_nil, rcEndG_eq]
    have := ih (k + 1)
    rw [show k + (m + 1) = k + 1 + m by omega, ← this]
    rfl
/-- What is asked of walks that go up alone. -/
def wkOne (A : Nat) : Bool :=
  walkOk one 0 ((A : Int) + 1) && seqN (divF one one) fun x => rlK one 0 A x x fun s => fin s &&
    !fc .gtr .f64 (gapF (wd s) (cn .f64 (floatOfInt .f64 ((A : Int) + 1)))) (cn .f64 4562254508917369340) &&
    seqN (rcStay one 0 0) fun s0 => seqN (rcStay one 0 1) fun s1 => rcK s0 s1 one 0 (A + 1) (A + 1) (rcAt false one 0 (A + 1) 0).1 (rcAt false one 0 (A + 1) 0).2 fun e => fin e &&
      fc .lss .f64 (gapF (wd e) (cn .f64 4607182418800017408)) (cn .f64 4562254508917369340)
/-- What is asked of the others. -/
def wkAll (A B C : Nat) : Bool :=
  seqN (wkU B) fun u => seqN (wkD C) fun d => walkOk u d ((A : Int) + 1) && walkOk u d ((A : Int) + 2) &&
    (seqN (divF one u) fun x => rlK u d A x x fun l => rlK u d (A + 1) x x fun m => seqN (divF one one) fun y => rlK one 0 A y y fun s =>
      fin l && fin m && !fc .lss .f32 l s && !fc .leq .f32 m l) &&
    seqN (rcStay u d 0) fun s0 => seqN (rcStay u d 1) fun s1 => wkRun s0 s1 u d (A + 1) 12 0 (rcAt false u d (A + 1) 0).1 (rcAt false u d (A + 1) 0).2 0
def wkRow (A B : Nat) : Bool := (List.range 8).all fun C => wkAll A B C

/-- A number from 0 to 7 that a byte chooses. -/
def b8 (cs : List Int) (i : Nat) : Nat := if i < cs.length then (cs.getD i 0).toNat % 8 else (i * 37 + 11) % 8
theorem b8_lt (cs : List Int) (i : Nat) : b8 cs i < 8 := by unfold b8; split <;> omega
theorem l_b10Long (u v : Value) (cs ds : List Int) (w : World) (hu : GL (Value.int .u8) w u cs) (hv : GL (Value.int .u8) w v ds) :
    Calls Try.prog 11 #[u, v] w fun e w' => e = .returned (.bool (decide (1048576 < cs.length) || decide (1048576 < ds.length))) ∧ Dr w w' := by
  obtain ⟨ao, c, rfl, hc1, hc2⟩ := hu.slice
  obtain ⟨bo, d, rfl, hd1, hd2⟩ := hv.slice
  clear hu hv
  by_cases h1 : (1048576 : Int) < (cs.length : Int) <;> by_cases h2 : (1048576 : Int) < (ds.length : Int)
  all_goals
    go_enter Try.func11, Try.ntmps11
    go_wp2
    go_ret
    refine ⟨ret_bool ?_, Dr.refl _⟩
    have h3 : decide (1048576 < cs.length) = decide ((1048576 : Int) < (cs.length : Int)) := by apply decide_eq_decide.2; omega
    have h4 : decide (1048576 < ds.length) = decide ((1048576 : Int) < (ds.length : Int)) := by apply decide_eq_decide.2; omega
    rw [h3, h4]
    simp [h1, h2]
theorem l_b10At (v : Value) (cs : List Int) (i : Nat) (hi : i < 3) (w : World) (hv : GL (Value.int .u8) w v cs) (hw : allU8 cs) :
    Calls Try.prog 12 #[v, .int .i64 i, .int .i64 8] w fun e w' => e = .returned (.int .i64 ((b8 cs i : Nat) : Int)) ∧ Dr w w' := by
  obtain ⟨ao, c, hv', hc, hget⟩ := hv
  subst hv'
  by_cases h : i < cs.length
  · obtain ⟨b, off, rfl, hb, hcell⟩ := hget i h
    have hx := hw.get i
    have e : cs.getD i 0 = cs[i] := by simp [h]
    rw [e] at hx
    have hb8 : b8 cs i = (cs[i]).toNat % 8 := by unfold b8; rw [if_pos h, e]
    generalize cs[i] = x at *
    obtain ⟨n, rfl⟩ := Int.eq_ofNat_of_zero_le hx.1
    rw [hb8]
    clear hget hw hb8 e
    have hm : ((n : Int)).tmod 8 = ((n % 8 : Nat) : Int) := by rw [Int.tmod_eq_emod_of_nonneg (by omega)]; omega
    have hw1 : IntKind.i64.wrap (n : Int) = (n : Int) := by rw [IntKind.wrap_i64]; omega
    go_enter Try.func12, Try.ntmps12
    go_wp2_with fail
    go_ret
    refine ⟨ret_int ?_, Dr.refl _⟩
    first | rfl | (simp; done) | (simp [hm, hw1]; done) | (simp; omega)
  · have hb8 : b8 cs i = (i * 37 + 11) % 8 := by unfold b8; rw [if_neg h]
    rw [hb8]
    clear hget hw hb8
    have h' : ¬ (i : Int) < (cs.length : Int) := by omega
    have hi3 : i = 0 ∨ i = 1 ∨ i = 2 := by omega
    rcases hi3 with rfl | rfl | rfl
    all_goals
      go_enter Try.func12, Try.ntmps12
      go_wp2_with fail
      go_ret
      refine ⟨ret_int ?_, Dr.refl _⟩
      first | rfl | decide | (simp; done) | (simp; omega)
theorem l_b10Gap (a b : Nat) (w : World) : Calls Try.prog 15 #[.float .f64 a, .float .f64 b] w fun e w' => (∃ r, e = .returned (.float .f64 r) ∧ cn .f64 r = gapF (cn .f64 a) (cn .f64 b)) ∧ Dr w w' := by
  cases h : fc .lss .f64 (cn .f64 a) (cn .f64 b)
  all_goals
    have H := Lib.hid h
    clear h
    go_enter Try.func15, Try.ntmps15
    go_wp2_with (first | (refine wpList_fc .f64 _ _ rfl rfl rfl ?_; rw [H.out]) | (refine wpList_ar .f64 _ _ rfl rfl rfl ?_; intro r n hr hlt; have HR := Lib.hid hr; clear hr))
    go_ret
    exact ⟨⟨_, rfl, by rw [gapF, H.out, HR.out]; rfl⟩, by first | exact Dr.refl _ | exact Dr.mk _ _⟩

theorem s_SameNumber (x y : Nat) (hx : x < 4294967296) (hy : y < 4294967296) (w : World) : Calls Try.prog 16 #[.float .f32 x, .float .f32 y] w fun e w' => e = .returned (.bool (same (cn .f32 x) (cn .f32 y))) ∧ Dr w w' := by
  go_enter Try.func16, Try.ntmps16
  go_wp2_with (go_at_call 58; refine (s_l01Same x y hx hy _).mono ?_; rintro e w1 ⟨rfl, n, rfl⟩)
  go_ret
  exact ⟨rfl, by first | exact Dr.refl _ | exact Dr.mk _ _⟩
theorem wkU_eq (B : Nat) : ar .quo .f32 (cn .f32 (floatOfInt .f32 ((B : Int) + 1))) (cn .f32 1098907648) = wkU B := by
  rw [show cn .f32 (floatOfInt .f32 ((B : Int) + 1)) = fI _ from cn_fI _, show cn .f32 1098907648 = 1098907648 by decide +kernel]; rfl
theorem wkD_eq (B : Nat) : ar .quo .f32 (cn .f32 (floatOfInt .f32 (B : Int))) (cn .f32 1098907648) = wkD B := by
  rw [show cn .f32 (floatOfInt .f32 (B : Int)) = fI _ from cn_fI _, show cn .f32 1098907648 = 1098907648 by decide +kernel]; rfl
theorem cn_one : cn .f32 1065353216 = one := by decide +kernel
/-- What a chance is, all told. -/
theorem wk_chance {n k : Nat} {u d : Nat} (hw : walkOk u d ((n : Int)) = true) (hk : k < 12) (hf : fin (rcAt false u d n k).2 = true) (z : Bool) : rcQ z u d (n : Int) (k : Int) = ((rcAt false u d n k).2, true) := by
  have h : rcQ z u d (n : Int) (k : Int) = rcQ false u d (n : Int) (k : Int) := by cases z; rfl; exact rcQ_same ..
  rw [h, rcQ, hw, show inB (k : Int) 0 256 = true by simp [inB]; omega]
  simp only [Bool.and_self, if_true, Int.toNat_natCast]
  rw [numB, hf]; rfl

end Go.Proofs.Ytaplnfdlcihhpaa
