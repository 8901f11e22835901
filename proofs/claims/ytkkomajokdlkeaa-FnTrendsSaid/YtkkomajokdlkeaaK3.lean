/- Contracts: which numbers are the same. -/
import Derived.Test.YtkkomajokdlkeaaK1
import Derived.Test.YtkkomajokdlkeaaFb
namespace Go.Proofs.Ytkkomajokdlkeaa
set_option linter.unusedSimpArgs false
set_option linter.unusedVariables false
set_option maxRecDepth 100000
set_option maxHeartbeats 4000000
open Go.RowKit
attribute [local go_sem] run_store_float run_store_complex alloc_drewN setCell_drewN

theorem ret_bool {a b : Bool} (h : a = b) : Ending.returned (.bool a) = .returned (.bool b) := by rw [h]
theorem ret_int {k : IntKind} {a b : Int} (h : a = b) : Ending.returned (.int k a) = .returned (.int k b) := by rw [h]


theorem c_Float64bits (x : Nat) (w : World) : Sem.run Try.prog (callFunc 147 #[.float .f64 x]) w = .ok (.value (.int .u64 x)) w := by kernel_rfl

theorem c_Float32bits (x : Nat) (w : World) : Sem.run Try.prog (callFunc 143 #[.float .f32 x]) w = .ok (.value (.int .u32 x)) w := by kernel_rfl


theorem wrap_neg (x : Nat) (hx : x < 18446744073709551616) : decide (wrap64 (x : Int) < 0) = decide (9223372036854775808 ≤ x) := by
  rw [decide_eq_decide]
  unfold wrap64
  omega
theorem f_Signbit (x : Nat) (hx : x < 18446744073709551616) (w : World) :
    Calls Try.prog 131 #[.float .f64 x] w fun e w' => e = .returned (.bool (decide (9223372036854775808 ≤ x))) ∧ Dr w w' := by
  have hb := c_Float64bits
  go_enter Try.func131, Try.ntmps131
  go_wp2_with fail
  go_ret
  exact ⟨ret_bool (wrap_neg x hx), Dr.refl _⟩


/-- The bits that the reference tells. -/
theorem s_l01Bits (x : Nat) (hx : x < 4294967296) (w : World) :
    Calls Try.prog 122 #[.float .f32 x] w fun e w' => e = .returned (.int .i64 (cn .f32 x)) ∧ Dr w w' := by
  have hb := c_Float32bits
  go_enter Try.func122, Try.ntmps122
  go_wp2_with (first | (refine wpList_ar .f32 _ _ rfl rfl rfl ?_; intro r n hr hlt) | (refine wpList_fc .f32 _ _ rfl rfl rfl ?_) | (refine wpList_fc_g rfl .f32 _ _ rfl rfl rfl ?_) | (refine wpList_ar_g rfl .f32 _ _ rfl rfl rfl ?_; intro r n hr hlt))
  all_goals
    rename_i h
    go_ret
    refine ⟨ret_int ?_, Dr.refl _⟩
    rw [fc_neq_self, isNaN_cn] at h
  · rw [cn_of_nan h]
    exact rfl
  · have h : (FloatKind.f32.format.read x).isNaN = false := by simpa using h
    rw [cn_of_not h]


theorem s_l01Same (x y : Nat) (hx : x < 4294967296) (hy : y < 4294967296) (w : World) :
    Calls Try.prog 70 #[.float .f32 x, .float .f32 y] w fun e w' => e = .returned (.bool (same (cn .f32 x) (cn .f32 y))) ∧ Dr w w' := by
  go_enter Try.func70, Try.ntmps70
  go_wp2_with fail
  refine (s_l01Bits _ hx _).mono ?_; rintro z w1 ⟨rfl, n, rfl⟩
  go_wp2_with fail
  refine (s_l01Bits _ hy _).mono ?_; rintro z w1 ⟨rfl, n, rfl⟩
  go_wp2_with fail
  go_ret
  refine ⟨ret_bool ?_, _, rfl⟩
  unfold same
  rw [Bool.eq_iff_iff]
  simp only [beq_iff_eq]
  omega


theorem i_SameNumber (x y : Nat) (hx : x < 4294967296) (hy : y < 4294967296) (w : World) :
    Calls Try.prog 86 #[.float .f32 x, .float .f32 y] w fun e w' => e = .returned (.bool (same (cn .f32 x) (cn .f32 y))) ∧ Dr w w' := by
  have hxx := fc_neq_self .f32 (cn .f32 x)
  have hyy := fc_neq_self .f32 (cn .f32 y)
  have h0 : ∀ c d, same c d = (c == d) := fun _ _ => rfl
  cases h1 : (FloatKind.f32.format.read (cn .f32 x)).isNaN
  all_goals
    cases h2 : (FloatKind.f32.format.read (cn .f32 y)).isNaN
    all_goals
      rw [h1] at hxx
      rw [h2] at hyy
      have H1 := Lib.hid h1
      have H2 := Lib.hid h2
      have HX := Lib.hid hxx
      have HY := Lib.hid hyy
      have H0 := Lib.hid h0
      clear h1 h2 hxx hyy h0
  · cases h3 : fc .eql .f32 (cn .f32 x) (cn .f32 y)
    all_goals
      have H3 := Lib.hid h3
      clear h3
      go_enter Try.func86, Try.ntmps86
      go_wp2_with (first | (refine wpList_fc .f32 _ _ rfl rfl rfl ?_; first | rw [HX.out] | rw [HY.out] | rw [H3.out]) | (refine wpList_fc_g rfl .f32 _ _ rfl rfl rfl ?_; first | rw [HX.out] | rw [HY.out] | rw [H3.out]) | (refine wpList_wd_g rfl (by kernel_rfl) (by kernel_rfl) _ rfl ?_; intro r n hr hlt; have HR := Lib.hid hr; clear hr) | (go_at_call 131; refine (f_Signbit _ (by assumption) _).mono ?_; rintro z w1 ⟨rfl, n1, rfl⟩))
    · go_ret
      refine ⟨ret_bool ?_, Dr.refl _⟩
      have := same_of (cn_lt hx) (cn_lt hy) H1.out H2.out
      rw [← this, H3.out]; rfl
    · go_ret
      refine ⟨ret_bool ?_, Dr.mk _ _⟩
      have := same_of (cn_lt hx) (cn_lt hy) H1.out H2.out
      rw [← this, H3.out]
      simp only [Bool.true_and]
      exact signs_of (Hid.out ‹Hid (cn .f64 _ = wd (cn .f32 x))›) (Hid.out ‹Hid (cn .f64 _ = wd (cn .f32 y))›) H1.out H2.out
  all_goals
    go_enter Try.func86, Try.ntmps86
    go_wp2_with (first | (refine wpList_fc .f32 _ _ rfl rfl rfl ?_; first | rw [HX.out] | rw [HY.out]) | (refine wpList_fc_g rfl .f32 _ _ rfl rfl rfl ?_; first | rw [HX.out] | rw [HY.out]))
    go_ret
    refine ⟨ret_bool ?_, Dr.refl _⟩
    first
      | exact ((same_nan H1.out H2.out).1).symm
      | exact ((same_nan H2.out H1.out).2).symm
      | (rw [H0.out]; rw [cn_of_nan (show (FloatKind.f32.format.read x).isNaN = true by rw [← isNaN_cn]; exact H1.out), cn_of_nan (show (FloatKind.f32.format.read y).isNaN = true by rw [← isNaN_cn]; exact H2.out)]; rfl)


/-- What a function value does that compares two numbers. -/
def Asks2 (F : Nat) (q : Nat → Nat → Bool) : Prop := ∀ x y w, x < 4294967296 → y < 4294967296 → Calls Try.prog F #[.float .f32 x, .float .f32 y] w fun e w' => e = .returned (.bool (q (cn .f32 x) (cn .f32 y))) ∧ Dr w w'
theorem Asks2.at {F : Nat} {q : Nat → Nat → Bool} (h : Asks2 F q) (x y : Nat) (w : World) (hx : x < 4294967296) (hy : y < 4294967296) : Calls Try.prog F #[.float .f32 x, .float .f32 y] w fun e w' => e = .returned (.bool (q (cn .f32 x) (cn .f32 y))) ∧ Dr w w' := h x y w hx hy

def all2 (q : Nat → Nat → Bool) (cs ds : List Nat) : Bool := decide (cs.length = ds.length ∧ ∀ i (h1 : i < cs.length) (h2 : i < ds.length), q cs[i] ds[i] = true)
theorem all2_same (cs ds : List Nat) : all2 same cs ds = (cs == ds) := by
  rw [Bool.eq_iff_iff]
  simp only [all2, decide_eq_true_eq, beq_iff_eq, same]
  constructor
  · rintro ⟨h1, h2⟩
    exact List.ext_getElem h1 h2
  · rintro rfl
    exact ⟨rfl, fun _ _ _ => rfl⟩

theorem f_EqualFunc (F : Nat) (q : Nat → Nat → Bool) (hE : Enters F) (hF : Asks2 F q) (u v : Value) (cs ds : List Nat) (w : World) (hu : SB w u cs) (hv : SB w v ds) :
    Calls Try.prog 85 #[u, v, .func (.func F) #[] #[]] w fun e w' => e = .returned (.bool (all2 q cs ds)) ∧ Dr w w' := by
  obtain ⟨ao, c, xs, rfl, rfl, hlen, hbx, hcell⟩ := hu
  obtain ⟨bo, d, ys, rfl, rfl, hlen', hby, hcell'⟩ := hv
  have HF := Lib.hid hF
  have HC := Lib.hid hcell
  have HD := Lib.hid hcell'
  have HX := Lib.hid hbx
  have HY := Lib.hid hby
  clear hF hcell hcell' hbx hby
  unfold Enters at hE
  by_cases hl : xs.length = ys.length
  · have hl2 : ((xs.length : Int) != (ys.length : Int)) = false := by simp; omega
    have HL := Lib.hid hl
    clear hl
    go_enter Try.func85, Try.ntmps85
    go_wp2_with fail
    go_loopw [17] (fun i wr => ∃ k : Nat, k ≤ xs.length ∧ i = .int .i64 k ∧ Hid (∀ i (h1 : i < xs.length) (h2 : i < ys.length), i < k → q (cn .f32 xs[i]) (cn .f32 ys[i]) = true) ∧ ∃ d, wr = w.drewN d) (fun i _ => xs.length - (intOf i).toNat)
    case atStart => exact ⟨0, Nat.zero_le _, rfl, (by intro i _ _ h; omega), 0, rfl⟩
    case round =>
      obtain ⟨k, hk, rfl, H1, dd, rfl⟩ := hrel
      by_cases hlt : k < xs.length
      · have hlt' : k < ys.length := by have := HL.out; omega
        obtain ⟨b, off, rfl, hb, hc⟩ := HC.out k hlt
        obtain ⟨b', off', rfl, hb', hc'⟩ := HD.out k hlt'
        have hx1 := HX.out _ (List.getElem_mem hlt)
        have hy1 := HY.out _ (List.getElem_mem hlt')
        cases hp : q (cn .f32 xs[k]) (cn .f32 ys[k])
        all_goals
          have HP := Lib.hid hp
          go_wp2_with ((with_reducible refine (Asks2.at HF.out _ _ _ hx1 hy1).mono ?_); rintro e w1 ⟨rfl, n, rfl⟩)
        · go_ret
          refine ⟨ret_bool ?_, _, rfl⟩
          simp only [all2]
          refine (decide_eq_false ?_).symm
          rintro ⟨_, h⟩
          have := h k (by simpa using hlt) (by simpa using hlt')
          simp only [List.getElem_map] at this
          rw [HP.out] at this; cases this
        · refine ⟨⟨k + 1, by omega, by go_num, ?_, _, rfl⟩, by simp [intOf]; omega⟩
          intro i h1 h2 h3
          rcases Nat.lt_or_ge i k with h | h
          · exact H1.out i h1 h2 h
          · obtain rfl : i = k := by omega
            exact HP.out
      · go_wp2_with fail
        go_ret
        refine ⟨ret_bool ?_, _, rfl⟩
        simp only [all2]
        refine (decide_eq_true ?_).symm
        refine ⟨by simpa using HL.out, fun i h1 h2 => ?_⟩
        have := H1.out i (by simpa using h1) (by simpa using h2) (by simp at h1; omega)
        simpa using this
  · have hl2 : ((xs.length : Int) != (ys.length : Int)) = true := by simp; omega
    go_enter Try.func85, Try.ntmps85
    go_wp2_with fail
    go_ret
    refine ⟨ret_bool ?_, Dr.refl _⟩
    simp only [all2]
    refine (decide_eq_false ?_).symm
    rintro ⟨h, _⟩
    simp at h; omega

end Go.Proofs.Ytkkomajokdlkeaa
