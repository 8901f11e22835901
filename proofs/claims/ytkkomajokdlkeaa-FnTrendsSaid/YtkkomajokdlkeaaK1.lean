/- Contracts: tests of numbers and of lists of numbers. -/
import Derived.Test.YtkkomajokdlkeaaProg
import Derived.Test.YtkkomajokdlkeaaMem
import Derived.Deep.QuietTactic
import Derived.BigQuiet
import Derived.Outline
import Derived.Handy
namespace Go.Proofs.Ytkkomajokdlkeaa
set_option linter.unusedSimpArgs false
set_option linter.unusedVariables false
set_option maxRecDepth 100000
set_option maxHeartbeats 4000000
open Go.RowKit
attribute [local go_sem] run_store_float run_store_complex alloc_drewN setCell_drewN


theorem s_l01Finite (x : Nat) (w : World) :
    Calls Try.prog 69 #[.float .f32 x] w fun e w' => e = .returned (.bool (fin (cn .f32 x))) ∧ Dr w w' := by
  go_enter Try.func69, Try.ntmps69
  go_wp2_with (first | (refine wpList_ar .f32 _ _ rfl rfl rfl ?_; intro r n hr hlt) | (refine wpList_fc .f32 _ _ rfl rfl rfl ?_))
  go_ret
  refine ⟨?_, _, rfl⟩
  simp only [fin, ← hr]; rw [cn0]; rfl


theorem i_IsFinite (x : Nat) (w : World) :
    Calls Try.prog 87 #[.float .f32 x] w fun e w' => e = .returned (.bool (fin (cn .f32 x))) ∧ Dr w w' := by
  go_enter Try.func87, Try.ntmps87
  go_wp2_with (first | (refine wpList_ar .f32 _ _ rfl rfl rfl ?_; intro r n hr hlt) | (refine wpList_fc .f32 _ _ rfl rfl rfl ?_))
  go_ret
  refine ⟨?_, _, rfl⟩
  simp only [fin, ← hr]; rw [cn0]; rfl


theorem s_l02Least (x : Nat) (w : World) :
    Calls Try.prog 125 #[.float .f32 x] w fun e w' => e = .returned (.bool (least (cn .f32 x))) ∧ Dr w w' := by
  go_enter Try.func125, Try.ntmps125
  go_wp2_with (first | (go_at_call 69; refine (s_l01Finite _ _).mono ?_; rintro e w1 ⟨rfl, n, rfl⟩) | (refine wpList_fc .f32 _ _ rfl rfl rfl ?_) | (refine wpList_fc_g rfl .f32 _ _ rfl rfl rfl ?_))
  all_goals
    go_ret
    refine ⟨?_, _, rfl⟩
    simp [least, cn0, *]


theorem s_l02Above (x : Nat) (w : World) :
    Calls Try.prog 126 #[.float .f32 x] w fun e w' => e = .returned (.bool (above (cn .f32 x))) ∧ Dr w w' := by
  go_enter Try.func126, Try.ntmps126
  go_wp2_with (first | (go_at_call 69; refine (s_l01Finite _ _).mono ?_; rintro e w1 ⟨rfl, n, rfl⟩) | (refine wpList_fc .f32 _ _ rfl rfl rfl ?_) | (refine wpList_fc_g rfl .f32 _ _ rfl rfl rfl ?_))
  all_goals
    go_ret
    refine ⟨?_, _, rfl⟩
    simp [above, cn0, *]


theorem i_areFinite1 (x : Nat) (w : World) :
    Calls Try.prog 128 #[.float .f32 x] w fun e w' => e = .returned (.bool (!fin (cn .f32 x))) ∧ Dr w w' := by
  go_enter Try.func128, Try.ntmps128
  go_wp2_with (go_at_call 87; refine (i_IsFinite _ _).mono ?_; rintro e w1 ⟨rfl, n, rfl⟩)
  go_ret
  exact ⟨rfl, _, rfl⟩


theorem i_areNotLess1 (x : Nat) (w : World) :
    Calls Try.prog 129 #[.float .f32 x] w fun e w' => e = .returned (.bool (!least (cn .f32 x))) ∧ Dr w w' := by
  go_enter Try.func129, Try.ntmps129
  go_wp2_with (first | (go_at_call 87; refine (i_IsFinite _ _).mono ?_; rintro e w1 ⟨rfl, n, rfl⟩) | (refine wpList_fc .f32 _ _ rfl rfl rfl ?_) | (refine wpList_fc_g rfl .f32 _ _ rfl rfl rfl ?_))
  all_goals
    go_ret
    refine ⟨?_, _, rfl⟩
    simp [least, cn0, *]


theorem i_areMore1 (x : Nat) (w : World) :
    Calls Try.prog 130 #[.float .f32 x] w fun e w' => e = .returned (.bool (!above (cn .f32 x))) ∧ Dr w w' := by
  go_enter Try.func130, Try.ntmps130
  go_wp2_with (first | (go_at_call 87; refine (i_IsFinite _ _).mono ?_; rintro e w1 ⟨rfl, n, rfl⟩) | (refine wpList_fc .f32 _ _ rfl rfl rfl ?_) | (refine wpList_fc_g rfl .f32 _ _ rfl rfl rfl ?_))
  all_goals
    go_ret
    refine ⟨?_, _, rfl⟩
    simp [above, cn0, *]


/-- What a function value does that asks something of one number. -/
def Asks (F : Nat) (p : Nat → Bool) : Prop := ∀ x w, Calls Try.prog F #[.float .f32 x] w fun e w' => e = .returned (.bool (p (cn .f32 x))) ∧ Dr w w'

theorem Asks.at {F : Nat} {p : Nat → Bool} (h : Asks F p) (x : Nat) (w : World) : Calls Try.prog F #[.float .f32 x] w fun e w' => e = .returned (.bool (p (cn .f32 x))) ∧ Dr w w' := h x w

/-- F is a function of the program's own. -/
def Enters (F : Nat) : Prop := ∀ (args : Array Value) (w : World), (callFunc F args).run Try.prog w = .ok (.enter F args) w

/-- The first place that answers yes, as Go tells it. -/
def indexL (p : Nat → Bool) (cs : List Nat) : Int := match cs.findIdx? p with | some i => i | none => -1

theorem indexL_found {p : Nat → Bool} {cs : List Nat} {k : Nat} (hk : k < cs.length) (h1 : (cs.take k).any p = false) (h2 : p cs[k] = true) : indexL p cs = k := by
  have : cs.findIdx? p = some k := by
    rw [List.findIdx?_eq_some_iff_getElem]
    refine ⟨hk, h2, fun j hj => ?_⟩
    have := List.any_eq_false.1 h1 cs[j] (List.mem_take_iff_getElem.2 ⟨j, by omega, rfl⟩)
    simpa using this
  simp [indexL, this]
theorem indexL_none {p : Nat → Bool} {cs : List Nat} (h1 : cs.any p = false) : indexL p cs = -1 := by
  have : cs.findIdx? p = none := by
    rw [List.findIdx?_eq_none_iff]
    intro x hx
    have := List.any_eq_false.1 h1 x hx
    simpa using this
  simp [indexL, this]

theorem f_IndexFunc (F : Nat) (p : Nat → Bool) (hE : Enters F) (hF : Asks F p) (v : Value) (cs : List Nat) (w : World) (hv : SL w v cs) :
    Calls Try.prog 146 #[v, .func (.func F) #[] #[]] w fun e w' => e = .returned (.int .i64 (indexL p cs)) ∧ Dr w w' := by
  obtain ⟨ao, c, xs, rfl, rfl, hlen, hcell⟩ := hv
  have HF := Lib.hid hF
  have HC := Lib.hid hcell
  clear hF hcell
  unfold Enters at hE
  go_enter Try.func146, Try.ntmps146
  go_wp2_with fail
  go_loopw [8] (fun i wr => ∃ k : Nat, k ≤ xs.length ∧ i = .int .i64 k ∧ Hid (((xs.map (cn .f32)).take k).any p = false) ∧ ∃ d, wr = w.drewN d) (fun i _ => xs.length - (intOf i).toNat)
  case atStart => exact ⟨0, Nat.zero_le _, rfl, by simp [Hid], 0, rfl⟩
  case round =>
    obtain ⟨k, hk, rfl, H1, d, rfl⟩ := hrel
    by_cases hlt : k < xs.length
    · obtain ⟨b, off, rfl, hb, hc⟩ := HC.out k hlt
      cases hp : p (cn .f32 xs[k])
      all_goals
        have HP := Lib.hid hp
        go_wp2_with ((with_reducible refine (Asks.at HF.out _ _).mono ?_); rintro e w1 ⟨rfl, n, rfl⟩)
      · refine ⟨⟨k + 1, by omega, by go_num, ?_, _, rfl⟩, by simp [intOf]; omega⟩
        show _ = false
        rw [take_map_snoc _ _ _ hlt, List.any_append, H1.out]; simp [HP.out]
      · go_ret
        refine ⟨?_, _, rfl⟩
        rw [indexL_found (k := k) (by simpa using hlt) H1.out (by simpa using HP.out)]; rfl
    · go_wp2_with fail
      go_ret
      refine ⟨?_, _, rfl⟩
      have := H1.out
      rw [List.take_of_length_le (by simp; omega)] at this
      rw [indexL_none this]; rfl


theorem indexL_geq (p : Nat → Bool) (cs : List Nat) : decide (0 ≤ indexL p cs) = cs.any p := by
  unfold indexL
  cases h : cs.findIdx? p with
  | none =>
    rw [List.findIdx?_eq_none_iff] at h
    have : cs.any p = false := by rw [List.any_eq_false]; intro x hx; simp [h x hx]
    rw [this]; rfl
  | some i =>
    obtain ⟨hi, h1, h2⟩ := List.findIdx?_eq_some_iff_getElem.1 h
    have : cs.any p = true := List.any_eq_true.2 ⟨cs[i], List.getElem_mem _, h1⟩
    rw [this]; simp

theorem f_ContainsFunc (F : Nat) (p : Nat → Bool) (hE : Enters F) (hF : Asks F p) (v : Value) (cs : List Nat) (w : World) (hv : SL w v cs) :
    Calls Try.prog 127 #[v, .func (.func F) #[] #[]] w fun e w' => e = .returned (.bool (cs.any p)) ∧ Dr w w' := by
  go_enter Try.func127, Try.ntmps127
  go_wp2_with (go_at_call 146; refine (f_IndexFunc F p hE hF v cs _ hv).mono ?_; rintro e w1 ⟨rfl, n, rfl⟩)
  go_ret
  refine ⟨?_, _, rfl⟩
  rw [← indexL_geq]; rfl


theorem any_not (p : Nat → Bool) (cs : List Nat) : (!cs.any fun c => !p c) = cs.all p := by
  induction cs with
  | nil => rfl
  | cons c cs ih => simp [List.any_cons, List.all_cons, ← ih]

theorem i_areFinite (v : Value) (cs : List Nat) (w : World) (hv : SL w v cs) :
    Calls Try.prog 81 #[v] w fun e w' => e = .returned (.bool (allFin cs)) ∧ Dr w w' := by
  go_enter Try.func81, Try.ntmps81
  go_wp2_with (go_at_call 127; refine (f_ContainsFunc _ (fun c => !fin c) (fun _ _ => by kernel_rfl) i_areFinite1 v cs _ hv).mono ?_; rintro e w1 ⟨rfl, n, rfl⟩)
  go_ret
  refine ⟨?_, _, rfl⟩
  unfold allFin; rw [← any_not]; rfl


theorem i_areNotLess (v : Value) (cs : List Nat) (w : World) (hv : SL w v cs) :
    Calls Try.prog 83 #[v] w fun e w' => e = .returned (.bool (allLeast cs)) ∧ Dr w w' := by
  go_enter Try.func83, Try.ntmps83
  go_wp2_with (go_at_call 127; refine (f_ContainsFunc _ (fun c => !least c) (fun _ _ => by kernel_rfl) i_areNotLess1 v cs _ hv).mono ?_; rintro e w1 ⟨rfl, n, rfl⟩)
  go_ret
  refine ⟨?_, _, rfl⟩
  unfold allLeast; rw [← any_not]; rfl


theorem i_areMore (v : Value) (cs : List Nat) (w : World) (hv : SL w v cs) :
    Calls Try.prog 84 #[v] w fun e w' => e = .returned (.bool (allAbove cs)) ∧ Dr w w' := by
  go_enter Try.func84, Try.ntmps84
  go_wp2_with (go_at_call 127; refine (f_ContainsFunc _ (fun c => !above c) (fun _ _ => by kernel_rfl) i_areMore1 v cs _ hv).mono ?_; rintro e w1 ⟨rfl, n, rfl⟩)
  go_ret
  refine ⟨?_, _, rfl⟩
  unfold allAbove; rw [← any_not]; rfl

end Go.Proofs.Ytkkomajokdlkeaa
