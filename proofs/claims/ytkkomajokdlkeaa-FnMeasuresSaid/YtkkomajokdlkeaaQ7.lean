/- Contracts: tests of numbers and of lists of numbers. -/
import Derived.Test.YtkkomajokdlkeaaProg
import Derived.Deep.QuietTactic
import Derived.BigQuiet
import Derived.Outline
import Derived.Handy
import Derived.Test.YtkkomajokdlkeaaQ2
import Derived.Test.YtkkomajokdlkeaaQ5
namespace Go.Proofs.Ytkkomajokdlkeaa
set_option linter.unusedSimpArgs false
set_option linter.unusedVariables false
set_option maxRecDepth 100000
set_option maxHeartbeats 4000000
open Go.RowKit
attribute [local go_sem] run_store_float run_store_complex alloc_drewN setCell_drewN


theorem s_l01Finite (x : Nat) (w : World) :
    Calls Try.prog 69 #[.float .f32 x] w fun e w' => e = .returned (.bool (fin (cn .f32 x))) ∧ Dr w w' := by
  go_enter Try.func69, Try.ntmps69
  go_wp2_with (first | (refine wpList_ar .f32 _ _ rfl rfl rfl ?_; intro r n hr hlt) | (refine wpList_fc .f32 _ _ rfl rfl rfl ?_))
  go_ret
  refine ⟨?_, _, rfl⟩
  simp only [fin, ← hr]; rw [cn0]; rfl


theorem i_IsFinite (x : Nat) (w : World) :
    Calls Try.prog 87 #[.float .f32 x] w fun e w' => e = .returned (.bool (fin (cn .f32 x))) ∧ Dr w w' := by
  go_enter Try.func87, Try.ntmps87
  go_wp2_with (first | (refine wpList_ar .f32 _ _ rfl rfl rfl ?_; intro r n hr hlt) | (refine wpList_fc .f32 _ _ rfl rfl rfl ?_))
  go_ret
  refine ⟨?_, _, rfl⟩
  simp only [fin, ← hr]; rw [cn0]; rfl


theorem s_l02Least (x : Nat) (w : World) :
    Calls Try.prog 125 #[.float .f32 x] w fun e w' => e = .returned (.bool (least (cn .f32 x))) ∧ Dr w w' := by
  go_enter Try.func125, Try.ntmps125
  go_wp2_with (first | (go_at_call 69; refine (s_l01Finite _ _).mono ?_; rintro e w1 ⟨rfl, n, rfl⟩) | (refine wpList_fc .f32 _ _ rfl rfl rfl ?_) | (refine wpList_fc_g rfl .f32 _ _ rfl rfl rfl ?_))
  all_goals
    go_ret
    refine ⟨?_, _, rfl⟩
    simp [least, cn0, *]


theorem s_l02Above (x : Nat) (w : World) :
    Calls Try.prog 126 #[.float .f32 x] w fun e w' => e = .returned (.bool (above (cn .f32 x))) ∧ Dr w w' := by
  go_enter Try.func126, Try.ntmps126
  go_wp2_with (first | (go_at_call 69; refine (s_l01Finite _ _).mono ?_; rintro e w1 ⟨rfl, n, rfl⟩) | (refine wpList_fc .f32 _ _ rfl rfl rfl ?_) | (refine wpList_fc_g rfl .f32 _ _ rfl rfl rfl ?_))
  all_goals
    go_ret
    refine ⟨?_, _, rfl⟩
    simp [above, cn0, *]


theorem i_areFinite1 (x : Nat) (w : World) :
    Calls Try.prog 128 #[.float .f32 x] w fun e w' => e = .returned (.bool (!fin (cn .f32 x))) ∧ Dr w w' := by
  go_enter Try.func128, Try.ntmps128
  go_wp2_with (go_at_call 87; refine (i_IsFinite _ _).mono ?_; rintro e w1 ⟨rfl, n, rfl⟩)
  go_ret
  exact ⟨rfl, _, rfl⟩


theorem i_areNotLess1 (x : Nat) (w : World) :
    Calls Try.prog 129 #[.float .f32 x] w fun e w' => e = .returned (.bool (!least (cn .f32 x))) ∧ Dr w w' := by
  go_enter Try.func129, Try.ntmps129
  go_wp2_with (first | (go_at_call 87; refine (i_IsFinite _ _).mono ?_; rintro e w1 ⟨rfl, n, rfl⟩) | (refine wpList_fc .f32 _ _ rfl rfl rfl ?_) | (refine wpList_fc_g rfl .f32 _ _ rfl rfl rfl ?_))
  all_goals
    go_ret
    refine ⟨?_, _, rfl⟩
    simp [least, cn0, *]


theorem i_areMore1 (x : Nat) (w : World) :
    Calls Try.prog 130 #[.float .f32 x] w fun e w' => e = .returned (.bool (!above (cn .f32 x))) ∧ Dr w w' := by
  go_enter Try.func130, Try.ntmps130
  go_wp2_with (first | (go_at_call 87; refine (i_IsFinite _ _).mono ?_; rintro e w1 ⟨rfl, n, rfl⟩) | (refine wpList_fc .f32 _ _ rfl rfl rfl ?_) | (refine wpList_fc_g rfl .f32 _ _ rfl rfl rfl ?_))
  all_goals
    go_ret
    refine ⟨?_, _, rfl⟩
    simp [above, cn0, *]


/-- What a function value does that asks something of one number. -/
def Asks (F : Nat) (p : Nat → Bool) : Prop := ∀ x w, Calls Try.prog F #[.float .f32 x] w fun e w' => e = .returned (.bool (p (cn .f32 x))) ∧ Dr w w'

theorem Asks.at {F : Nat} {p : Nat → Bool} (h : Asks F p) (x : Nat) (w : World) : Calls Try.prog F #[.float .f32 x] w fun e w' => e = .returned (.bool (p (cn .f32 x))) ∧ Dr w w' := h x w

/-- F is a function of the program's own. -/
def Enters (F : Nat) : Prop := ∀ (args : Array Value) (w : World), (callFunc F args).run Try.prog w = .ok (.enter F args) w

/-- The first place that answers yes, as Go tells it. -/
def indexL (p : Nat → Bool) (cs : List Nat) : Int := match cs.findIdx? p with | some i => i | none => -1

theorem indexL_found {p : Nat → Bool} {cs : List Nat} {k : Nat} (hk : k < cs.length) (h1 : (cs.take k).any p = false) (h2 : p cs[k] = true) : indexL p cs = k := by
  have : cs.findIdx? p = some k := by
    rw [List.findIdx?_eq_some_iff_getElem]
    refine ⟨hk, h2, fun j hj => ?_⟩
    have := List.any_eq_false.1 h1 cs[j] (List.mem_take_iff_getElem.2 ⟨j, by omega, rfl⟩)
    simpa using this
  simp [indexL, this]
theorem indexL_none {p : Nat → Bool} {cs : List Nat} (h1 : cs.any p = false) : indexL p cs = -1 := by
  have : cs.findIdx? p = none := by
    rw [List.findIdx?_eq_none_iff]
    intro x hx
    have := List.any_eq_false.1 h1 x hx
    simpa using this
  simp [indexL, this]

theorem f_IndexFunc (F : Nat) (p : Nat → Bool) (hE : Enters F) (hF : Asks F p) (v : Value) (cs : List Nat) (w : World) (hv : SL w v cs) :
    Calls Try.prog 146 #[v, .func (.func F) #[] #[]] w fun e w' => e = .returned (.int .i64 (indexL p cs)) ∧ Dr w w' := by
  obtain ⟨ao, c, xs, rfl, rfl, hlen, hcell⟩ := hv
  have HF := Lib.hid hF
  have HC := Lib.hid hcell
  clear hF hcell
  unfold Enters at hE
  go_enter Try.func146, Try.ntmps146
  go_wp2_with fail
  go_loopw [8] (fun i wr => ∃ k : Nat, k ≤ xs.length ∧ i = .int .i64 k ∧ Hid (((xs.map (cn .f32)).take k).any p = false) ∧ ∃ d, wr = w.drewN d) (fun i _ => xs.length - (intOf i).toNat)
  case atStart => exact ⟨0, Nat.zero_le _, rfl, by simp [Hid], 0, rfl⟩
  case round =>
    obtain ⟨k, hk, rfl, H1, d, rfl⟩ := hrel
    by_cases hlt : k < xs.length
    · obtain ⟨b, off, rfl, hb, hc⟩ := HC.out k hlt
      cases hp : p (cn .f32 xs[k])
      all_goals
        have HP := Lib.hid hp
        go_wp2_with ((with_reducible refine (Asks.at HF.out _ _).mono ?_); rintro e w1 ⟨rfl, n, rfl⟩)
      · refine ⟨⟨k + 1, by omega, by go_num, ?_, _, rfl⟩, by simp [intOf]; omega⟩
        show _ = false
        rw [take_map_snoc _ _ _ hlt, List.any_append, H1.out]; simp [HP.out]
      · go_ret
        refine ⟨?_, _, rfl⟩
        rw [indexL_found (k := k) (by simpa using hlt) H1.out (by simpa using HP.out)]; rfl
    · go_wp2_with fail
      go_ret
      refine ⟨?_, _, rfl⟩
      have := H1.out
      rw [List.take_of_length_le (by simp; omega)] at this
      rw [indexL_none this]; rfl


theorem indexL_geq (p : Nat → Bool) (cs : List Nat) : decide (0 ≤ indexL p cs) = cs.any p := by
  unfold indexL
  cases h : cs.findIdx? p with
  | none =>
    rw [List.findIdx?_eq_none_iff] at h
    have : cs.any p = false := by rw [List.any_eq_false]; intro x hx; simp [h x hx]
    rw [this]; rfl
  | some i =>
    obtain ⟨hi, h1, h2⟩ := List.findIdx?_eq_some_iff_getElem.1 h
    have : cs.any p = true := List.any_eq_true.2 ⟨cs[i], List.getElem_mem _, h1⟩
    rw [this]; simp

theorem f_ContainsFunc (F : Nat) (p : Nat → Bool) (hE : Enters F) (hF : Asks F p) (v : Value) (cs : List Nat) (w : World) (hv : SL w v cs) :
    Calls Try.prog 127 #[v, .func (.func F) #[] #[]] w fun e w' => e = .returned (.bool (cs.any p)) ∧ Dr w w' := by
  go_enter Try.func127, Try.ntmps127
  go_wp2_with (go_at_call 146; refine (f_IndexFunc F p hE hF v cs _ hv).mono ?_; rintro e w1 ⟨rfl, n, rfl⟩)
  go_ret
  refine ⟨?_, _, rfl⟩
  rw [← indexL_geq]; rfl


theorem any_not (p : Nat → Bool) (cs : List Nat) : (!cs.any fun c => !p c) = cs.all p := by
  induction cs with
  | nil => rfl
  | cons c cs ih => simp [List.any_cons, List.all_cons, ← ih]

theorem i_areFinite (v : Value) (cs : List Nat) (w : World) (hv : SL w v cs) :
    Calls Try.prog 81 #[v] w fun e w' => e = .returned (.bool (allFin cs)) ∧ Dr w w' := by
  go_enter Try.func81, Try.ntmps81
  go_wp2_with (go_at_call 127; refine (f_ContainsFunc _ (fun c => !fin c) (fun _ _ => by kernel_rfl) i_areFinite1 v cs _ hv).mono ?_; rintro e w1 ⟨rfl, n, rfl⟩)
  go_ret
  refine ⟨?_, _, rfl⟩
  unfold allFin; rw [← any_not]; rfl


theorem i_areNotLess (v : Value) (cs : List Nat) (w : World) (hv : SL w v cs) :
    Calls Try.prog 83 #[v] w fun e w' => e = .returned (.bool (allLeast cs)) ∧ Dr w w' := by
  go_enter Try.func83, Try.ntmps83
  go_wp2_with (go_at_call 127; refine (f_ContainsFunc _ (fun c => !least c) (fun _ _ => by kernel_rfl) i_areNotLess1 v cs _ hv).mono ?_; rintro e w1 ⟨rfl, n, rfl⟩)
  go_ret
  refine ⟨?_, _, rfl⟩
  unfold allLeast; rw [← any_not]; rfl


theorem i_areMore (v : Value) (cs : List Nat) (w : World) (hv : SL w v cs) :
    Calls Try.prog 84 #[v] w fun e w' => e = .returned (.bool (allAbove cs)) ∧ Dr w w' := by
  go_enter Try.func84, Try.ntmps84
  go_wp2_with (go_at_call 127; refine (f_ContainsFunc _ (fun c => !above c) (fun _ _ => by kernel_rfl) i_areMore1 v cs _ hv).mono ?_; rintro e w1 ⟨rfl, n, rfl⟩)
  go_ret
  refine ⟨?_, _, rfl⟩
  unfold allAbove; rw [← any_not]; rfl

end Go.Proofs.Ytkkomajokdlkeaa

namespace Go.Proofs.Ytkkomajokdlkeaa
set_option linter.unusedSimpArgs false
set_option linter.unusedVariables false
set_option maxRecDepth 100000
set_option maxHeartbeats 4000000
open Go.RowKit
attribute [local go_sem] run_store_float run_store_complex alloc_drewN setCell_drewN

theorem ret_bool {a b : Bool} (h : a = b) : Ending.returned (.bool a) = .returned (.bool b) := by rw [h]
theorem ret_int {k : IntKind} {a b : Int} (h : a = b) : Ending.returned (.int k a) = .returned (.int k b) := by rw [h]


theorem c_Float64bits (x : Nat) (w : World) : Sem.run Try.prog (callFunc 147 #[.float .f64 x]) w = .ok (.value (.int .u64 x)) w := by kernel_rfl

theorem c_Float32bits (x : Nat) (w : World) : Sem.run Try.prog (callFunc 143 #[.float .f32 x]) w = .ok (.value (.int .u32 x)) w := by kernel_rfl


theorem wrap_neg (x : Nat) (hx : x < 18446744073709551616) : decide (wrap64 (x : Int) < 0) = decide (9223372036854775808 ≤ x) := by
  rw [decide_eq_decide]
  unfold wrap64
  omega
theorem f_Signbit (x : Nat) (hx : x < 18446744073709551616) (w : World) :
    Calls Try.prog 131 #[.float .f64 x] w fun e w' => e = .returned (.bool (decide (9223372036854775808 ≤ x))) ∧ Dr w w' := by
  have hb := c_Float64bits
  go_enter Try.func131, Try.ntmps131
  go_wp2_with fail
  go_ret
  exact ⟨ret_bool (wrap_neg x hx), Dr.refl _⟩


/-- The bits that the reference tells. -/
theorem s_l01Bits (x : Nat) (hx : x < 4294967296) (w : World) :
    Calls Try.prog 122 #[.float .f32 x] w fun e w' => e = .returned (.int .i64 (cn .f32 x)) ∧ Dr w w' := by
  have hb := c_Float32bits
  go_enter Try.func122, Try.ntmps122
  go_wp2_with (first | (refine wpList_ar .f32 _ _ rfl rfl rfl ?_; intro r n hr hlt) | (refine wpList_fc .f32 _ _ rfl rfl rfl ?_) | (refine wpList_fc_g rfl .f32 _ _ rfl rfl rfl ?_) | (refine wpList_ar_g rfl .f32 _ _ rfl rfl rfl ?_; intro r n hr hlt))
  all_goals
    rename_i h
    go_ret
    refine ⟨ret_int ?_, Dr.refl _⟩
    rw [fc_neq_self, isNaN_cn] at h
  · rw [cn_of_nan h]
    exact rfl
  · have h : (FloatKind.f32.format.read x).isNaN = false := by simpa using h
    rw [cn_of_not h]


theorem s_l01Same (x y : Nat) (hx : x < 4294967296) (hy : y < 4294967296) (w : World) :
    Calls Try.prog 70 #[.float .f32 x, .float .f32 y] w fun e w' => e = .returned (.bool (same (cn .f32 x) (cn .f32 y))) ∧ Dr w w' := by
  go_enter Try.func70, Try.ntmps70
  go_wp2_with fail
  refine (s_l01Bits _ hx _).mono ?_; rintro z w1 ⟨rfl, n, rfl⟩
  go_wp2_with fail
  refine (s_l01Bits _ hy _).mono ?_; rintro z w1 ⟨rfl, n, rfl⟩
  go_wp2_with fail
  go_ret
  refine ⟨ret_bool ?_, _, rfl⟩
  unfold same
  rw [Bool.eq_iff_iff]
  simp only [beq_iff_eq]
  omega


theorem i_SameNumber (x y : Nat) (hx : x < 4294967296) (hy : y < 4294967296) (w : World) :
    Calls Try.prog 86 #[.float .f32 x, .float .f32 y] w fun e w' => e = .returned (.bool (same (cn .f32 x) (cn .f32 y))) ∧ Dr w w' := by
  have hxx := fc_neq_self .f32 (cn .f32 x)
  have hyy := fc_neq_self .f32 (cn .f32 y)
  have h0 : ∀ c d, same c d = (c == d) := fun _ _ => rfl
  cases h1 : (FloatKind.f32.format.read (cn .f32 x)).isNaN
  all_goals
    cases h2 : (FloatKind.f32.format.read (cn .f32 y)).isNaN
    all_goals
      rw [h1] at hxx
      rw [h2] at hyy
      have H1 := Lib.hid h1
      have H2 := Lib.hid h2
      have HX := Lib.hid hxx
      have HY := Lib.hid hyy
      have H0 := Lib.hid h0
      clear h1 h2 hxx hyy h0
  · cases h3 : fc .eql .f32 (cn .f32 x) (cn .f32 y)
    all_goals
      have H3 := Lib.hid h3
      clear h3
      go_enter Try.func86, Try.ntmps86
      go_wp2_with (first | (refine wpList_fc .f32 _ _ rfl rfl rfl ?_; first | rw [HX.out] | rw [HY.out] | rw [H3.out]) | (refine wpList_fc_g rfl .f32 _ _ rfl rfl rfl ?_; first | rw [HX.out] | rw [HY.out] | rw [H3.out]) | (refine wpList_wd_g rfl (by kernel_rfl) (by kernel_rfl) _ rfl ?_; intro r n hr hlt; have HR := Lib.hid hr; clear hr) | (go_at_call 131; refine (f_Signbit _ (by assumption) _).mono ?_; rintro z w1 ⟨rfl, n1, rfl⟩))
    · go_ret
      refine ⟨ret_bool ?_, Dr.refl _⟩
      have := same_of (cn_lt hx) (cn_lt hy) H1.out H2.out
      rw [← this, H3.out]; rfl
    · go_ret
      refine ⟨ret_bool ?_, Dr.mk _ _⟩
      have := same_of (cn_lt hx) (cn_lt hy) H1.out H2.out
      rw [← this, H3.out]
      simp only [Bool.true_and]
      exact signs_of (Hid.out ‹Hid (cn .f64 _ = wd (cn .f32 x))›) (Hid.out ‹Hid (cn .f64 _ = wd (cn .f32 y))›) H1.out H2.out
  all_goals
    go_enter Try.func86, Try.ntmps86
    go_wp2_with (first | (refine wpList_fc .f32 _ _ rfl rfl rfl ?_; first | rw [HX.out] | rw [HY.out]) | (refine wpList_fc_g rfl .f32 _ _ rfl rfl rfl ?_; first | rw [HX.out] | rw [HY.out]))
    go_ret
    refine ⟨ret_bool ?_, Dr.refl _⟩
    first
      | exact ((same_nan H1.out H2.out).1).symm
      | exact ((same_nan H2.out H1.out).2).symm
      | (rw [H0.out]; rw [cn_of_nan (show (FloatKind.f32.format.read x).isNaN = true by rw [← isNaN_cn]; exact H1.out), cn_of_nan (show (FloatKind.f32.format.read y).isNaN = true by rw [← isNaN_cn]; exact H2.out)]; rfl)


/-- What a function value does that compares two numbers. -/
def Asks2 (F : Nat) (q : Nat → Nat → Bool) : Prop := ∀ x y w, x < 4294967296 → y < 4294967296 → Calls Try.prog F #[.float .f32 x, .float .f32 y] w fun e w' => e = .returned (.bool (q (cn .f32 x) (cn .f32 y))) ∧ Dr w w'
theorem Asks2.at {F : Nat} {q : Nat → Nat → Bool} (h : Asks2 F q) (x y : Nat) (w : World) (hx : x < 4294967296) (hy : y < 4294967296) : Calls Try.prog F #[.float .f32 x, .float .f32 y] w fun e w' => e = .returned (.bool (q (cn .f32 x) (cn .f32 y))) ∧ Dr w w' := h x y w hx hy

def all2 (q : Nat → Nat → Bool) (cs ds : List Nat) : Bool := decide (cs.length = ds.length ∧ ∀ i (h1 : i < cs.length) (h2 : i < ds.length), q cs[i] ds[i] = true)
theorem all2_same (cs ds : List Nat) : all2 same cs ds = (cs == ds) := by
  rw [Bool.eq_iff_iff]
  simp only [all2, decide_eq_true_eq, beq_iff_eq, same]
  constructor
  · rintro ⟨h1, h2⟩
    exact List.ext_getElem h1 h2
  · rintro rfl
    exact ⟨rfl, fun _ _ _ => rfl⟩

theorem f_EqualFunc (F : Nat) (q : Nat → Nat → Bool) (hE : Enters F) (hF : Asks2 F q) (u v : Value) (cs ds : List Nat) (w : World) (hu : SB w u cs) (hv : SB w v ds) :
    Calls Try.prog 85 #[u, v, .func (.func F) #[] #[]] w fun e w' => e = .returned (.bool (all2 q cs ds)) ∧ Dr w w' := by
  obtain ⟨ao, c, xs, rfl, rfl, hlen, hbx, hcell⟩ := hu
  obtain ⟨bo, d, ys, rfl, rfl, hlen', hby, hcell'⟩ := hv
  have HF := Lib.hid hF
  have HC := Lib.hid hcell
  have HD := Lib.hid hcell'
  have HX := Lib.hid hbx
  have HY := Lib.hid hby
  clear hF hcell hcell' hbx hby
  unfold Enters at hE
  by_cases hl : xs.length = ys.length
  · have hl2 : ((xs.length : Int) != (ys.length : Int)) = false := by simp; omega
    have HL := Lib.hid hl
    clear hl
    go_enter Try.func85, Try.ntmps85
    go_wp2_with fail
    go_loopw [17] (fun i wr => ∃ k : Nat, k ≤ xs.length ∧ i = .int .i64 k ∧ Hid (∀ i (h1 : i < xs.length) (h2 : i < ys.length), i < k → q (cn .f32 xs[i]) (cn .f32 ys[i]) = true) ∧ ∃ d, wr = w.drewN d) (fun i _ => xs.length - (intOf i).toNat)
    case atStart => exact ⟨0, Nat.zero_le _, rfl, (by intro i _ _ h; omega), 0, rfl⟩
    case round =>
      obtain ⟨k, hk, rfl, H1, dd, rfl⟩ := hrel
      by_cases hlt : k < xs.length
      · have hlt' : k < ys.length := by have := HL.out; omega
        obtain ⟨b, off, rfl, hb, hc⟩ := HC.out k hlt
        obtain ⟨b', off', rfl, hb', hc'⟩ := HD.out k hlt'
        have hx1 := HX.out _ (List.getElem_mem hlt)
        have hy1 := HY.out _ (List.getElem_mem hlt')
        cases hp : q (cn .f32 xs[k]) (cn .f32 ys[k])
        all_goals
          have HP := Lib.hid hp
          go_wp2_with ((with_reducible refine (Asks2.at HF.out _ _ _ hx1 hy1).mono ?_); rintro e w1 ⟨rfl, n, rfl⟩)
        · go_ret
          refine ⟨ret_bool ?_, _, rfl⟩
          simp only [all2]
          refine (decide_eq_false ?_).symm
          rintro ⟨_, h⟩
          have := h k (by simpa using hlt) (by simpa using hlt')
          simp only [List.getElem_map] at this
          rw [HP.out] at this; cases this
        · refine ⟨⟨k + 1, by omega, by go_num, ?_, _, rfl⟩, by simp [intOf]; omega⟩
          intro i h1 h2 h3
          rcases Nat.lt_or_ge i k with h | h
          · exact H1.out i h1 h2 h
          · obtain rfl : i = k := by omega
            exact HP.out
      · go_wp2_with fail
        go_ret
        refine ⟨ret_bool ?_, _, rfl⟩
        simp only [all2]
        refine (decide_eq_true ?_).symm
        refine ⟨by simpa using HL.out, fun i h1 h2 => ?_⟩
        have := H1.out i (by simpa using h1) (by simpa using h2) (by simp at h1; omega)
        simpa using this
  · have hl2 : ((xs.length : Int) != (ys.length : Int)) = true := by simp; omega
    go_enter Try.func85, Try.ntmps85
    go_wp2_with fail
    go_ret
    refine ⟨ret_bool ?_, Dr.refl _⟩
    simp only [all2]
    refine (decide_eq_false ?_).symm
    rintro ⟨h, _⟩
    simp at h; omega

end Go.Proofs.Ytkkomajokdlkeaa
