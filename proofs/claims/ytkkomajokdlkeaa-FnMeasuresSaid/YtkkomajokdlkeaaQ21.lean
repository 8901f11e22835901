/- Contracts: the nearest one of a list of series. -/
import Derived.Deep.QuietTactic
import Derived.BigQuiet
import Derived.Test.YtkkomajokdlkeaaQ8
import Derived.Test.YtkkomajokdlkeaaQ18
import Derived.Test.YtkkomajokdlkeaaQ20
namespace Go.Proofs.Ytkkomajokdlkeaa
set_option linter.unusedSimpArgs false
set_option linter.unusedVariables false
set_option maxRecDepth 100000
set_option maxHeartbeats 4000000
open Go.RowKit
attribute [local go_sem] run_store_float run_store_complex alloc_drewN setCell_drewN

def indexS (p : List Nat → Bool) (cs : List (List Nat)) : Int := match cs.findIdx? p with | some i => i | none => -1
theorem indexS_found {p : List Nat → Bool} {cs : List (List Nat)} {k : Nat} (hk : k < cs.length) (h1 : ∀ i, i < k → p (cs.getD i []) = false) (h2 : p (cs.getD k []) = true) : indexS p cs = k := by
  have hg : ∀ i (h : i < cs.length), cs.getD i [] = cs[i] := fun i h => by simp [h]
  have : cs.findIdx? p = some k := by
    rw [List.findIdx?_eq_some_iff_getElem]
    refine ⟨hk, by rw [← hg]; exact h2, fun j hj => ?_⟩
    rw [← hg j (by omega), h1 j hj]; simp
  simp [indexS, this]
theorem indexS_none {p : List Nat → Bool} {cs : List (List Nat)} (h1 : ∀ i, i < cs.length → p (cs.getD i []) = false) : indexS p cs = -1 := by
  have hg : ∀ i (h : i < cs.length), cs.getD i [] = cs[i] := fun i h => by simp [h]
  have : cs.findIdx? p = none := by
    rw [List.findIdx?_eq_none_iff]
    intro x hx
    obtain ⟨i, hi, rfl⟩ := List.getElem_of_mem hx
    rw [← hg i hi, h1 i hi]
  simp [indexS, this]
theorem indexS_geq (p : List Nat → Bool) (cs : List (List Nat)) : decide (0 ≤ indexS p cs) = cs.any p := by
  unfold indexS
  cases h : cs.findIdx? p with
  | none =>
    rw [List.findIdx?_eq_none_iff] at h
    have : cs.any p = false := by rw [List.any_eq_false]; intro x hx; simp [h x hx]
    rw [this]; rfl
  | some i =>
    obtain ⟨hi, h1, h2⟩ := List.findIdx?_eq_some_iff_getElem.1 h
    have : cs.any p = true := List.any_eq_true.2 ⟨cs[i], List.getElem_mem _, h1⟩
    rw [this]; simp
theorem any_notS (p : List Nat → Bool) (cs : List (List Nat)) : (!cs.any fun c => !p c) = cs.all p := by
  induction cs with
  | nil => rfl
  | cons c cs ih => simp [List.any_cons, List.all_cons, ← ih]
/-- A function value that asks something of a slice of numbers, and reads what it has captured. -/
def AsksS (F : Nat) (p : Value) (w : World) (g : List Nat → Bool) : Prop :=
  ∀ v cs w', Below w.heap.size w w' → SB w' v cs → Calls Try.prog F #[v, p] w' fun e w'' => e = .returned (.bool (g cs)) ∧ Dr w' w''
theorem AsksS.at {F : Nat} {p : Value} {w : World} {g : List Nat → Bool} (h : AsksS F p w g) (v : Value) (cs : List Nat) (w' : World) (hb : Below w.heap.size w w') (hs : SB w' v cs) :
    Calls Try.prog F #[v, p] w' fun e w'' => e = .returned (.bool (g cs)) ∧ Dr w' w'' := h v cs w' hb hs
def Enters1 (F : Nat) : Prop := ∀ (args : Array Value) (w : World), (callFunc F args).run Try.prog w = .ok (.enter F args) w

def headL (css : List (List Nat)) : List Nat := css.getD 0 []
def rowL (css : List (List Nat)) (k : Nat) : List Nat := css.getD k []
def lensOk (css : List (List Nat)) : Bool := decide (1 ≤ css.length) && decide (css.length ≤ 16)
/-- There is a list of series of the same length. -/
def listOk (css : List (List Nat)) : Bool := lensOk css && css.all fun a => twoOk a (headL css)
theorem head_mem {css : List (List Nat)} (h : 1 ≤ css.length) : headL css ∈ css := by
  cases css with
  | nil => simp at h
  | cons c cs => exact List.mem_cons_self ..
theorem rowL_eq {css : List (List Nat)} {k : Nat} (h : k < css.length) : rowL css k = css[k] := by simp [rowL, h]
theorem listOk_two {css : List (List Nat)} (h : listOk css = true) {k : Nat} (hk : k < css.length) : twoOk (rowL css k) (headL css) = true := by
  simp only [listOk, Bool.and_eq_true, List.all_eq_true] at h
  rw [rowL_eq hk]
  exact h.2 _ (List.getElem_mem hk)
theorem listOk_len {css : List (List Nat)} (h : listOk css = true) : 1 ≤ css.length ∧ css.length ≤ 16 := by
  simp only [listOk, lensOk, Bool.and_eq_true, decide_eq_true_eq] at h
  exact h.1
theorem two_iff {a b : List Nat} : twoOk a b = true ↔ series a = true ∧ series b = true ∧ a.length = b.length := by
  simp only [twoOk, Bool.and_eq_true, decide_eq_true_eq]
  exact ⟨fun ⟨⟨h1, h2⟩, h3⟩ => ⟨h1, h2, h3⟩, fun ⟨h1, h2, h3⟩ => ⟨⟨h1, h2⟩, h3⟩⟩
/-- As the reference asks it: each one is a series, and as long as the first. -/
theorem listOk_of {css : List (List Nat)} (hl : lensOk css = true) (h : ∀ i, i < css.length → series (rowL css i) = true ∧ (rowL css i).length = (headL css).length) : listOk css = true := by
  have h1 : 1 ≤ css.length := by simp only [lensOk, Bool.and_eq_true, decide_eq_true_eq] at hl; exact hl.1
  have h0 : series (headL css) = true := (h 0 (by omega)).1
  simp only [listOk, hl, Bool.true_and, List.all_eq_true]
  intro x hx
  obtain ⟨i, hi, rfl⟩ := List.getElem_of_mem hx
  have := h i hi
  rw [rowL_eq hi] at this
  exact two_iff.2 ⟨this.1, h0, this.2⟩
theorem listOk_no {css : List (List Nat)} {k : Nat} (hk : k < css.length) (h : (series (rowL css k) && decide ((rowL css k).length = (headL css).length)) = false) : listOk css = false := by
  cases e : listOk css
  · rfl
  · have := two_iff.1 (listOk_two e hk)
    rw [this.1, this.2.2] at h
    simp at h
/-- The best one among the first ones, and how far it is. -/
def nsAt (css : List (List Nat)) (x : List Nat) : Nat → Int × Nat
  | 0 => (0, 0)
  | k + 1 => if k = 0 then (0, farL (rowL css k) x) else if fc .lss .f32 (farL (rowL css k) x) (nsAt css x k).2 then ((k : Int), farL (rowL css k) x) else nsAt css x k
def nsFin (css : List (List Nat)) (x : List Nat) : Nat → Bool
  | 0 => true
  | k + 1 => nsFin css x k && fin (farL (rowL css k) x)
theorem nsFin_mono {css : List (List Nat)} {x : List Nat} {i j : Nat} (hij : i ≤ j) (h : nsFin css x i = false) : nsFin css x j = false := by
  induction hij with
  | refl => exact h
  | step _ ih => show (_ && _) = false; rw [ih]; rfl
/-- The nearest one, and whether all are finite. -/
def nearL (css : List (List Nat)) (x : List Nat) : Int × Nat × Bool := if nsFin css x css.length then ((nsAt css x css.length).1, (nsAt css x css.length).2, true) else (0, 0, false)
def nsQ (css : List (List Nat)) (x : List Nat) : Int × Nat × Bool := if listOk css && twoOk x (headL css) then nearL css x else (0, 0, false)
theorem nsQ_no {css : List (List Nat)} {x : List Nat} (h : (listOk css && twoOk x (headL css)) = false) : nsQ css x = (0, 0, false) := by rw [nsQ, h]; rfl
theorem nsQ_yes {css : List (List Nat)} {x : List Nat} (h : (listOk css && twoOk x (headL css)) = true) : nsQ css x = nearL css x := by rw [nsQ, h]; rfl
theorem nearL_no {css : List (List Nat)} {x : List Nat} {k : Nat} (hk : k < css.length) (h : fin (farL (rowL css k) x) = false) : nearL css x = (0, 0, false) := by
  have : nsFin css x css.length = false := nsFin_mono (i := k + 1) hk (by show (_ && _) = false; rw [h]; simp)
  rw [nearL, this]; rfl
theorem nearL_yes {css : List (List Nat)} {x : List Nat} (h : nsFin css x css.length = true) : nearL css x = ((nsAt css x css.length).1, (nsAt css x css.length).2, true) := by rw [nearL, h]; rfl
def NE (e : Ending) (q : Int × Nat × Bool) : Prop := ∃ n r b, e = .returned (.tuple #[.int .i64 n, .float .f32 r, .bool b]) ∧ r < 4294967296 ∧ n = q.1 ∧ cn .f32 r = q.2.1 ∧ b = q.2.2
theorem NE.no {q : Int × Nat × Bool} (hq : q = (0, 0, false)) : NE (.returned (.tuple #[.int .i64 0, .float .f32 0, .bool false])) q := by
  subst hq; exact ⟨_, _, _, rfl, by omega, rfl, cn0, rfl⟩

theorem f_IndexFuncS (F : Nat) (p : Value) (g : List Nat → Bool) (hE : Enters1 F) (v : Value) (css : List (List Nat)) (w : World) (hv : SS w v css) (hF : AsksS F p w g) :
    Calls Try.prog 119 #[v, .func (.func F) #[] #[p]] w fun e w' => e = .returned (.int .i64 (indexS g css)) ∧ Dr w w' := by
  obtain ⟨ao, c, rfl, hc1, hc2, hget⟩ := hv.get rfl
  have HF := Lib.hid hF
  have HC := Lib.hid hget
  clear hF hget hv
  unfold Enters1 at hE
  go_enter Try.func119, Try.ntmps119
  go_wp2_with fail
  go_loopw [8] (fun i wr => ∃ k : Nat, k ≤ css.length ∧ i = .int .i64 k ∧ Hid (∀ i, i < k → g (css.getD i []) = false) ∧ ∃ d, wr = w.drewN d) (fun i _ => css.length - (intOf i).toNat)
  case atStart => exact ⟨0, Nat.zero_le _, rfl, (by intro i hi; omega), 0, rfl⟩
  case round =>
    obtain ⟨k, hk, rfl, H1, d, rfl⟩ := hrel
    by_cases hlt : k < css.length
    · obtain ⟨b, off, u, rfl, hb, hc, hs⟩ := HC.out k hlt
      obtain ⟨xk, hxk⟩ : ∃ xk, xk = css.getD k [] := ⟨_, rfl⟩
      rw [← hxk] at hs
      have HS := Lib.hid hs
      have HX := Lib.hid hxk
      clear hxk hs
      cases hp : g xk
      all_goals
        have HP := Lib.hid hp
        clear hp
        go_wp2_with ((with_reducible refine (AsksS.at HF.out _ xk _ (below_drewN (Below.refl _ _) _) (SB.drewN HS.out _)).mono ?_); rintro e w1 ⟨rfl, n, rfl⟩; rw [HP.out])
      · refine ⟨⟨k + 1, by omega, by go_num, ?_, _, rfl⟩, by simp [intOf]; omega⟩
        intro i hi
        rcases Nat.lt_or_ge i k with h | h
        · exact H1.out i h
        · obtain rfl : i = k := by omega
          rw [← HX.out]; exact HP.out
      · go_ret
        refine ⟨ret_int ?_, _, rfl⟩
        exact (indexS_found hlt H1.out (by rw [← HX.out]; exact HP.out)).symm
    · go_wp2_with fail
      go_ret
      obtain rfl : k = css.length := by omega
      exact ⟨ret_int (indexS_none H1.out).symm, _, rfl⟩

theorem f_ContainsFuncS (F : Nat) (p : Value) (g : List Nat → Bool) (hE : Enters1 F) (v : Value) (css : List (List Nat)) (w : World) (hv : SS w v css) (hF : AsksS F p w g) :
    Calls Try.prog 58 #[v, .func (.func F) #[] #[p]] w fun e w' => e = .returned (.bool (css.any g)) ∧ Dr w w' := by
  go_enter Try.func58, Try.ntmps58
  go_wp2_with (go_at_call 119; refine (f_IndexFuncS F p g hE v css _ hv hF).mono ?_; rintro e w1 ⟨rfl, n, rfl⟩)
  go_ret
  refine ⟨?_, _, rfl⟩
  rw [← indexS_geq]; rfl

theorem i_areShapes1 (b : Nat) (l : Value) (css : List (List Nat)) (w : World) (hb : b < w.heap.size) (hm : w.cell? ⟨b, 0, none⟩ = some l) (hv : SS w l css) (h0 : 1 ≤ css.length) :
    AsksS 118 (.pointer (some ⟨b, 0, none⟩)) w (fun cs => !twoOk cs (headL css)) := by
  intro v cs w' hB hs
  have h1 := (hB.cell (p := ⟨b, 0, none⟩) hb).trans hm
  obtain ⟨ao, c, rfl, hc1, hc2, hget⟩ := (hv.keep hB).get rfl
  obtain ⟨b0, off, u, rfl, hb0, hc0, hs0⟩ := hget 0 (by omega)
  have hs0 : SB w' u (headL css) := hs0
  have HS := Lib.hid hs
  have HS0 := Lib.hid hs0
  rw [Nat.add_zero] at hc0
  clear hm hget hv hs hs0
  go_enter Try.func118, Try.ntmps118
  go_wp2_with (go_at_call 89; refine (i_areTwo _ _ cs (headL css) _ HS.out.sl HS0.out.sl).mono ?_; rintro e w1 ⟨rfl, n, rfl⟩)
  go_ret
  exact ⟨rfl, _, rfl⟩
theorem i_areShapes (v : Value) (css : List (List Nat)) (w : World) (hv : SS w v css) :
    Calls Try.prog 55 #[v] w fun e w' => e = .returned (.bool (listOk css)) ∧ Below w.heap.size w w' := by
  have HV := Lib.hid hv
  obtain ⟨ao, c, rfl, hc1, hc2⟩ := hv.slice
  clear hv
  by_cases h1 : 1 ≤ css.length
  · by_cases h2 : css.length ≤ 16
    · have HL := Lib.hid (show lensOk css = true by simp [lensOk, h1, h2])
      go_enter Try.func55, Try.ntmps55
      go_wp2_with (go_at_call 58; refine (f_ContainsFuncS 118 _ (fun cs => !twoOk cs (headL css)) (fun _ _ => by kernel_rfl) _ css _ (HV.out.keep (by (repeat (first | with_reducible exact Below.refl _ _ | with_reducible assumption | with_reducible refine below_drewN ?_ _ | with_reducible refine Below.drew ?_ | with_reducible refine Below.alloc ?_ (by first | omega | (simp; omega) | (simp; done) | (simp at *; omega)) _ | with_reducible refine Below.setCell ?_ (by first | omega | (simp; omega) | (simp; done) | (simp at *; omega)) _ | refine Below.trans ?_ (Below.mono (by with_reducible assumption) (by first | omega | (simp; omega) | (simp; done) | (simp at *; omega))))))) (i_areShapes1 _ (.slice ao css.length c) css _ (by simp; try omega) (by go_simp) (HV.out.keep (by (repeat (first | with_reducible exact Below.refl _ _ | with_reducible assumption | with_reducible refine below_drewN ?_ _ | with_reducible refine Below.drew ?_ | with_reducible refine Below.alloc ?_ (by first | omega | (simp; omega) | (simp; done) | (simp at *; omega)) _ | with_reducible refine Below.setCell ?_ (by first | omega | (simp; omega) | (simp; done) | (simp at *; omega)) _ | refine Below.trans ?_ (Below.mono (by with_reducible assumption) (by first | omega | (simp; omega) | (simp; done) | (simp at *; omega))))))) h1)).mono ?_; rintro e w1 ⟨rfl, n, rfl⟩)
      all_goals
        go_ret
        refine ⟨ret_bool ?_, by (repeat (first | with_reducible exact Below.refl _ _ | with_reducible assumption | with_reducible refine below_drewN ?_ _ | with_reducible refine Below.drew ?_ | with_reducible refine Below.alloc ?_ (by first | omega | (simp; omega) | (simp; done) | (simp at *; omega)) _ | with_reducible refine Below.setCell ?_ (by first | omega | (simp; omega) | (simp; done) | (simp at *; omega)) _ | refine Below.trans ?_ (Below.mono (by with_reducible assumption) (by first | omega | (simp; omega) | (simp; done) | (simp at *; omega)))))⟩
        rw [listOk, HL.out, ← any_notS]; rfl
    · have HL := Lib.hid (show lensOk css = false by simp [lensOk, h2])
      go_enter Try.func55, Try.ntmps55
      go_wp2_with fail
      go_ret
      exact ⟨ret_bool (by rw [listOk, HL.out]; rfl), by (repeat (first | with_reducible exact Below.refl _ _ | with_reducible assumption | with_reducible refine below_drewN ?_ _ | with_reducible refine Below.drew ?_ | with_reducible refine Below.alloc ?_ (by first | omega | (simp; omega) | (simp; done) | (simp at *; omega)) _ | with_reducible refine Below.setCell ?_ (by first | omega | (simp; omega) | (simp; done) | (simp at *; omega)) _ | refine Below.trans ?_ (Below.mono (by with_reducible assumption) (by first | omega | (simp; omega) | (simp; done) | (simp at *; omega)))))⟩
  · have HL := Lib.hid (show lensOk css = false by simp [lensOk, h1])
    go_enter Try.func55, Try.ntmps55
    go_wp2_with fail
    go_ret
    exact ⟨ret_bool (by rw [listOk, HL.out]; rfl), by (repeat (first | with_reducible exact Below.refl _ _ | with_reducible assumption | with_reducible refine below_drewN ?_ _ | with_reducible refine Below.drew ?_ | with_reducible refine Below.alloc ?_ (by first | omega | (simp; omega) | (simp; done) | (simp at *; omega)) _ | with_reducible refine Below.setCell ?_ (by first | omega | (simp; omega) | (simp; done) | (simp at *; omega)) _ | refine Below.trans ?_ (Below.mono (by with_reducible assumption) (by first | omega | (simp; omega) | (simp; done) | (simp at *; omega)))))⟩

theorem s_l07List (v : Value) (css : List (List Nat)) (w : World) (hv : SS w v css) :
    Calls Try.prog 61 #[v] w fun e w' => e = .returned (.bool (listOk css)) ∧ Dr w w' := by
  obtain ⟨ao, c, rfl, hc1, hc2, hget⟩ := hv.get rfl
  have HG := Lib.hid hget
  clear hget hv
  by_cases h1 : 1 ≤ css.length
  · by_cases h2 : css.length ≤ 16
    · have HL := Lib.hid (show lensOk css = true by simp [lensOk, h1, h2])
      go_enter Try.func61, Try.ntmps61
      go_wp2_with fail
      go_loopw [14] (fun i wr => ∃ k : Nat, k ≤ css.length ∧ i = .int .i64 k ∧ Hid (∀ i, i < k → series (rowL css i) = true ∧ (rowL css i).length = (headL css).length) ∧ ∃ d, wr = w.drewN d) (fun i _ => css.length - (intOf i).toNat)
      case atStart => exact ⟨0, Nat.zero_le _, rfl, (by intro i hi; omega), 0, rfl⟩
      case round =>
        obtain ⟨k, hk, rfl, H1, d, rfl⟩ := hrel
        by_cases hlt : k < css.length
        · obtain ⟨b, off, u, rfl, hbl, hc, hs⟩ := HG.out k hlt
          obtain ⟨b0, off0, u0, e0, hbl0, hc0, hs0⟩ := HG.out 0 (by omega)
          simp only [Option.some.injEq, Addr.mk.injEq, and_true] at e0
          obtain ⟨rfl, rfl⟩ := e0
          rw [Nat.add_zero] at hc0
          obtain ⟨xk, hxk⟩ : ∃ xk, xk = rowL css k := ⟨_, rfl⟩
          obtain ⟨x0, hx0⟩ : ∃ x0, x0 = headL css := ⟨_, rfl⟩
          have hs : SB w u xk := by rw [hxk]; exact hs
          have hs0 : SB w u0 x0 := by rw [hx0]; exact hs0
          obtain ⟨ak, ck, rfl, hlk⟩ := hs.sl.slice
          obtain ⟨a0, c0, rfl, hl0⟩ := hs0.sl.slice
          have HX := Lib.hid hxk
          have HX0 := Lib.hid hx0
          have HSK := Lib.hid hs
          clear hxk hx0 hs hs0
          have h00 : (0 : Int) < (css.length : Int) := by omega
          cases hp : series xk
          · have HP := Lib.hid hp
            have HQ := Lib.hid (fun n => s_l02Series _ xk (w.drewN n) (HSK.out.drewN n).sl)
            rw [hp] at HQ
            clear hp
            go_wp2_with fail
            go_quiet ((go_at_call 65; first | exact quiet_dr (HQ.out _) | exact quiet_dr2 (HQ.out _)))
            all_goals
              go_wp2_with fail
              go_ret
              refine ⟨ret_bool (listOk_no hlt ?_).symm, by first | exact ⟨_, rfl⟩ | exact ⟨_, (World.drewN_drewN ..).symm⟩⟩
              rw [← HX.out, HP.out]; rfl
          · have HP := Lib.hid hp
            have HQ := Lib.hid (fun n => s_l02Series _ xk (w.drewN n) (HSK.out.drewN n).sl)
            rw [hp] at HQ
            clear hp
            by_cases hll : xk.length = x0.length
            · have hl1 : ((xk.length : Int) != (x0.length : Int)) = false := by simp; omega
              have HLL := Lib.hid hll
              clear hll
              go_wp2_with fail
              go_quiet ((go_at_call 65; first | exact quiet_dr (HQ.out _) | exact quiet_dr2 (HQ.out _)))
              all_goals
                go_wp2_with fail
                refine ⟨⟨k + 1, by omega, by go_num, ?_, by first | exact ⟨_, rfl⟩ | exact ⟨_, (World.drewN_drewN ..).symm⟩⟩, by simp [intOf]; omega⟩
                intro i hi
                rcases Nat.lt_or_ge i k with h | h
                · exact H1.out i h
                · obtain rfl : i = k := by omega
                  rw [← HX.out, ← HX0.out]; exact ⟨HP.out, HLL.out⟩
            · have hl1 : ((xk.length : Int) != (x0.length : Int)) = true := by simp; omega
              have HLL := Lib.hid hll
              clear hll
              go_wp2_with fail
              go_quiet ((go_at_call 65; first | exact quiet_dr (HQ.out _) | exact quiet_dr2 (HQ.out _)))
              all_goals
                go_wp2_with fail
                go_ret
                refine ⟨ret_bool (listOk_no hlt ?_).symm, by first | exact ⟨_, rfl⟩ | exact ⟨_, (World.drewN_drewN ..).symm⟩⟩
                rw [← HX.out, ← HX0.out]
                simp [HLL.out]
        · go_wp2_with fail
          go_ret
          obtain rfl : k = css.length := by omega
          exact ⟨ret_bool (listOk_of HL.out H1.out).symm, _, rfl⟩
    · have HL := Lib.hid (show lensOk css = false by simp [lensOk, h2])
      go_enter Try.func61, Try.ntmps61
      go_wp2_with fail
      go_ret
      exact ⟨ret_bool (by rw [listOk, HL.out]; rfl), Dr.refl _⟩
  · have HL := Lib.hid (show lensOk css = false by simp [lensOk, h1])
    go_enter Try.func61, Try.ntmps61
    go_wp2_with fail
    go_ret
    exact ⟨ret_bool (by rw [listOk, HL.out]; rfl), Dr.refl _⟩

end Go.Proofs.Ytkkomajokdlkeaa

namespace Go.Proofs.Ytkkomajokdlkeaa
set_option linter.unusedSimpArgs false
set_option linter.unusedVariables false
set_option maxRecDepth 100000
set_option maxHeartbeats 4000000
set_option linter.unusedSimpArgs false
set_option linter.unusedVariables false
open Go.RowKit
attribute [local go_sem] run_store_float run_store_complex alloc_drewN setCell_drewN

theorem SB.sub {w : World} {ao : Option Addr} {n c : Nat} {cs : List Nat} (h : SB w (.slice ao n c) cs) {lo hi : Nat} (h1 : lo ≤ hi) (h2 : hi ≤ n) :
    SB w (.slice (if c = lo then ao else ao.map (·.add lo)) (hi - lo) (c - lo)) ((cs.drop lo).take (hi - lo)) := by
  obtain ⟨bo, d, xs, hv, rfl, hlen, hlt, hcell⟩ := h
  simp only [Value.slice.injEq] at hv
  obtain ⟨rfl, rfl, rfl⟩ := hv
  refine ⟨(if c = lo then ao else ao.map (·.add lo)), c - lo, (xs.drop lo).take (hi - lo), ?_, by simp [List.map_drop, List.map_take], ?_, fun x hx => hlt x (List.mem_of_mem_drop (List.mem_of_mem_take hx)), fun i hi' => ?_⟩
  · congr 1
    simp; omega
  · simp; omega
  · have hi2 : i < hi - lo := by simp at hi'; omega
    obtain ⟨b, off, e1, e2, e3⟩ := hcell (lo + i) (by omega)
    refine ⟨b, off + lo, ?_, e2, ?_⟩
    · rw [if_neg (by omega), e1]
      simp [Addr.add_lit]
    · rw [show off + lo + i = off + (lo + i) by omega, e3]; simp
/-- The part of so many numbers from a place on. -/
def cutL (cs : List Nat) (L i : Nat) : List Nat := (cs.drop i).take L
theorem cutL_length {cs : List Nat} {L i : Nat} (h : i + L ≤ cs.length) : (cutL cs L i).length = L := by simp [cutL]; omega
theorem SB.part {w : World} {ao : Option Addr} {n c : Nat} {cs : List Nat} (h : SB w (.slice ao n c) cs) {L k : Nat} (h0 : 0 < L) (hk : k + L ≤ n) (hc : n ≤ c) : SB w (.slice (Option.map (fun x => x.add k) ao) L (c - k)) (cutL cs L k) := by
  have h1 := h.sub (lo := k) (hi := k + L) (by omega) hk
  rw [if_neg (by omega), Nat.add_sub_cancel_left] at h1
  exact h1
theorem cutL_series {cs : List Nat} {L i : Nat} (hs : series cs = true) (h1 : 1 ≤ L) (h : i + L ≤ cs.length) : series (cutL cs L i) = true := by
  have hl := cutL_length h
  have h2 := (series_len hs).2
  simp only [series, Bool.and_eq_true, decide_eq_true_eq] at hs ⊢
  refine ⟨⟨by omega, by omega⟩, ?_⟩
  have h3 := hs.2
  simp only [allFin, List.all_eq_true] at h3 ⊢
  exact fun x hx => h3 x (List.mem_of_mem_drop (List.mem_of_mem_take hx))
theorem normQ_raw {cs : List Nat} (hs : series cs = true) : normQ cs = (if (rawQ cs).2 then (rawQ cs).1 else [], (rawQ cs).2) := by
  rw [normQ, hs]
  unfold rawQ given
  cases above (normRoot cs) <;> simp
theorem rawQ_length {cs : List Nat} (h : (rawQ cs).2 = true) : (rawQ cs).1.length = cs.length := by
  unfold rawQ at h ⊢
  split
  · rw [normL_length]
  · rename_i h1; rw [if_neg h1] at h; cases h
def pfOk (cs : List Nat) (L k : Nat) : Bool := (List.range k).all fun i => (rawQ (cutL cs L i)).2
def pfL (cs : List Nat) (L k : Nat) : List (List Nat) := (List.range k).map fun i => (rawQ (cutL cs L i)).1
theorem pfL_length (cs : List Nat) (L k : Nat) : (pfL cs L k).length = k := by simp [pfL]
theorem pfL_succ (cs : List Nat) (L k : Nat) : pfL cs L (k + 1) = pfL cs L k ++ [(rawQ (cutL cs L k)).1] := by simp [pfL, List.range_succ]
theorem pfOk_succ (cs : List Nat) (L k : Nat) : pfOk cs L (k + 1) = (pfOk cs L k && (rawQ (cutL cs L k)).2) := by simp [pfOk, List.range_succ]
theorem pfOk_get {cs : List Nat} {L n i : Nat} (h : pfOk cs L n = true) (hi : i < n) : (rawQ (cutL cs L i)).2 = true := by
  simp only [pfOk, List.all_eq_true] at h
  exact h i (List.mem_range.2 hi)
theorem pfOk_no {cs : List Nat} {L n i : Nat} (hi : i < n) (h : (rawQ (cutL cs L i)).2 = false) : pfOk cs L n = false := by
  cases e : pfOk cs L n
  · rfl
  · rw [pfOk_get e hi] at h; cases h
theorem pfL_row {cs : List Nat} {L n i : Nat} (hi : i < n) : rowL (pfL cs L n) i = (rawQ (cutL cs L i)).1 := by simp [rowL, pfL, hi]
theorem pfL_rowlen {cs : List Nat} {L n i : Nat} (h : pfOk cs L n = true) (hi : i < n) (hn : n + L ≤ cs.length + 1) : (rowL (pfL cs L n) i).length = L := by
  rw [pfL_row hi, rawQ_length (pfOk_get h hi), cutL_length (by omega)]
/-- Two places are too near to each other. -/
def nearB (L i k : Nat) : Bool := decide (i - k < L) && decide (k - i < L)
/-- The nearest other part among the first k. -/
def pfNear (ps : List (List Nat)) (L i : Nat) : Nat → Int × Nat
  | 0 => (-1, 0)
  | k + 1 => if nearB L i k then pfNear ps L i k else
      if (decide ((pfNear ps L i k).1 < 0) || fc .lss .f32 (farL (rowL ps i) (rowL ps k)) (pfNear ps L i k).2) = true then ((k : Int), farL (rowL ps i) (rowL ps k)) else pfNear ps L i k
theorem pfNear_near {ps : List (List Nat)} {L i k : Nat} (h : nearB L i k = true) : pfNear ps L i (k + 1) = pfNear ps L i k := by rw [pfNear, if_pos h]
theorem pfNear_take {ps : List (List Nat)} {L i k : Nat} (h : nearB L i k = false) (h2 : (decide ((pfNear ps L i k).1 < 0) || fc .lss .f32 (farL (rowL ps i) (rowL ps k)) (pfNear ps L i k).2) = true) : pfNear ps L i (k + 1) = ((k : Int), farL (rowL ps i) (rowL ps k)) := by
  rw [pfNear, if_neg (by simp [h]), if_pos h2]
theorem pfNear_leave {ps : List (List Nat)} {L i k : Nat} (h : nearB L i k = false) (h2 : (decide ((pfNear ps L i k).1 < 0) || fc .lss .f32 (farL (rowL ps i) (rowL ps k)) (pfNear ps L i k).2) = false) : pfNear ps L i (k + 1) = pfNear ps L i k := by
  rw [pfNear, if_neg (by simp [h]), if_neg (by simp [h2])]
theorem pfNear_range (ps : List (List Nat)) (L i k : Nat) : -1 ≤ (pfNear ps L i k).1 ∧ (pfNear ps L i k).1 < 1 + k := by
  induction k with
  | zero => exact ⟨by show (-1 : Int) ≤ -1; omega, by show (-1 : Int) < _; omega⟩
  | succ k ih =>
    rw [pfNear]
    split
    · omega
    · split
      · dsimp only; omega
      · omega
def pfFars (ps : List (List Nat)) (L n k : Nat) : List Nat := (List.range k).map fun i => (pfNear ps L i n).2
def pfAts (ps : List (List Nat)) (L n k : Nat) : List Int := (List.range k).map fun i => (pfNear ps L i n).1
def pfHas (ps : List (List Nat)) (L n k : Nat) : Bool := (List.range k).all fun i => decide (0 ≤ (pfNear ps L i n).1)
theorem pfFars_length (ps : List (List Nat)) (L n k : Nat) : (pfFars ps L n k).length = k := by simp [pfFars]
theorem pfAts_length (ps : List (List Nat)) (L n k : Nat) : (pfAts ps L n k).length = k := by simp [pfAts]
theorem pfFars_succ (ps : List (List Nat)) (L n k : Nat) : pfFars ps L n (k + 1) = pfFars ps L n k ++ [(pfNear ps L k n).2] := by simp [pfFars, List.range_succ]
theorem pfAts_succ (ps : List (List Nat)) (L n k : Nat) : pfAts ps L n (k + 1) = pfAts ps L n k ++ [(pfNear ps L k n).1] := by simp [pfAts, List.range_succ]
theorem pfHas_succ {ps : List (List Nat)} {L n k : Nat} (h : pfHas ps L n k = true) (h2 : 0 ≤ (pfNear ps L k n).1) : pfHas ps L n (k + 1) = true := by simp [pfHas, List.range_succ] at h ⊢; exact ⟨h, h2⟩
theorem pfHas_no {ps : List (List Nat)} {L n k m : Nat} (hk : k < m) (h : (pfNear ps L k n).1 < 0) : pfHas ps L n m = false := by
  cases e : pfHas ps L n m
  · rfl
  · simp only [pfHas, List.all_eq_true, decide_eq_true_eq] at e
    have := e k (List.mem_range.2 hk)
    omega
/-- Behind all parts. -/
def pfEnd (ps : List (List Nat)) (L n : Nat) : List Nat × List Int × Bool :=
  if pfHas ps L n n && allFin (pfFars ps L n n) then (pfFars ps L n n, pfAts ps L n n, true) else ([], [], false)
def pfQ (cs : List Nat) (long : Int) : List Nat × List Int × Bool :=
  if series cs && inB long 2 ((cs.length / 2 : Nat) : Int) then
    (if pfOk cs long.toNat (cs.length + 1 - long.toNat) then pfEnd (pfL cs long.toNat (cs.length + 1 - long.toNat)) long.toNat (cs.length + 1 - long.toNat) else ([], [], false))
  else ([], [], false)
theorem pfQ_no {cs : List Nat} {long : Int} (h : (series cs && inB long 2 ((cs.length / 2 : Nat) : Int)) = false) : pfQ cs long = ([], [], false) := by rw [pfQ, h]; rfl
theorem pfQ_bad {cs : List Nat} {L : Nat} (h : pfOk cs L (cs.length + 1 - L) = false) : pfQ cs (L : Int) = ([], [], false) := by
  rw [pfQ, Int.toNat_natCast, h]
  split <;> rfl
theorem pfQ_yes {cs : List Nat} {L : Nat} (h : (series cs && inB (L : Int) 2 ((cs.length / 2 : Nat) : Int)) = true) (h2 : pfOk cs L (cs.length + 1 - L) = true) : pfQ cs (L : Int) = pfEnd (pfL cs L (cs.length + 1 - L)) L (cs.length + 1 - L) := by
  rw [pfQ, h, Int.toNat_natCast, h2, if_pos rfl, if_pos rfl]
theorem pfEnd_has {ps : List (List Nat)} {L n : Nat} (h : pfHas ps L n n = false) : pfEnd ps L n = ([], [], false) := by rw [pfEnd, h]; rfl
theorem pfEnd_fin {ps : List (List Nat)} {L n : Nat} (h : allFin (pfFars ps L n n) = false) : pfEnd ps L n = ([], [], false) := by rw [pfEnd, h, Bool.and_false]; rfl
theorem pfEnd_yes {ps : List (List Nat)} {L n : Nat} (h : pfHas ps L n n = true) (h2 : allFin (pfFars ps L n n) = true) : pfEnd ps L n = (pfFars ps L n n, pfAts ps L n n, true) := by rw [pfEnd, h, h2]; rfl
/-- Two slices of the call's own and a bool are returned. -/
def PE (T1 T2 base : Nat) (w : World) (e : Ending) (q : List Nat × List Int × Bool) : Prop := ∃ u v b, e = .returned (.tuple #[u, v, .bool b]) ∧ OW T1 base w u q.1 ∧ GO (Value.int .i64) T2 base w v q.2.1 ∧ b = q.2.2
theorem PE.no (T1 T2 base : Nat) (w : World) {q : List Nat × List Int × Bool} (hq : q = ([], [], false)) : PE T1 T2 base w (.returned (.tuple #[.slice none 0 0, .slice none 0 0, .bool false])) q := by
  subst hq; exact ⟨_, _, _, rfl, OW.nil .., GO.nil .., rfl⟩
/-- Slices of other elements lie in other blocks. -/
theorem OW.ne_go {α : Type} {inj : α → Value} {T T' b b' : Nat} {w : World} {u v : Value} {cs : List Nat} {xs : List α} (h : OW T b w u cs) (h' : GO inj T' b' w v xs) (hne : T ≠ T') : u.ownBlock = none ∨ u.ownBlock ≠ v.ownBlock := by
  obtain ⟨ys, ho, -, -⟩ := h
  rcases ho.2 with ⟨rfl, -⟩ | ⟨g, cap, cur, rfl, -, hg, -⟩
  · exact .inl rfl
  · rcases h'.2 with ⟨rfl, -⟩ | ⟨g2, cap2, cur2, rfl, -, hg2, -⟩
    · exact .inr (by simp [Value.ownBlock])
    · refine .inr fun e => ?_
      have e2 : g = g2 := by simpa [Value.ownBlock] using e
      subst e2
      rw [hg] at hg2
      simp only [Option.some.injEq, Obj.cells.injEq] at hg2
      exact hne hg2.2.1
theorem GO.ne_ow {α : Type} {inj : α → Value} {T T' b b' : Nat} {w : World} {u v : Value} {cs : List Nat} {xs : List α} (h : OW T b w u cs) (h' : GO inj T' b' w v xs) (hne : T ≠ T') : v.ownBlock = none ∨ v.ownBlock ≠ u.ownBlock := by
  rcases h.ne_go h' hne with h1 | h1
  · cases e : v.ownBlock with
    | none => exact .inl rfl
    | some g => exact .inr (by rw [h1]; simp)
  · exact .inr (Ne.symm h1)
section
variable {P : Program} {S T1 T2 : Nat} {z : Value} {by_ : Nat}
theorem OW.one {T b : Nat} {w : World} {u : Value} {cs : List Nat} (h : OW T b w u cs) : u.oneCell' = true := by
  obtain ⟨ys, ho, -, -⟩ := h
  rcases ho.2 with ⟨rfl, -⟩ | ⟨g, cap, cur, rfl, -⟩ <;> rfl
theorem SO.nil (lo : Nat) (w : World) : SO T1 T2 lo w (.slice none 0 0) [] := ⟨[], GO.nil .., rfl, fun i h => by cases h⟩
theorem SO.empty (w : World) {n : Nat} (hn : n = w.heap.size) {lo : Nat} (hb : lo ≤ w.heap.size) : SO T1 T2 lo (w.alloc (.cells #[] T1)) (.slice (some ⟨n, 0, none⟩) 0 0) [] := ⟨[], GO.empty _ _ hn hb, rfl, fun i h => by cases h⟩
theorem SO.keep {lo : Nat} {w w' : World} {v : Value} {css : List (List Nat)} (h : SO T1 T2 lo w v css) (hb : Below w.heap.size w w') : SO T1 T2 lo w' v css := by
  obtain ⟨vs, h1, h2, h3⟩ := h
  exact ⟨vs, h1.keep hb, h2, fun i a b => (h3 i a b).keep hb⟩
theorem SO.drewN {lo : Nat} {w : World} {v : Value} {css : List (List Nat)} (h : SO T1 T2 lo w v css) (n : Nat) : SO T1 T2 lo (w.drewN n) v css := h
theorem SO.drew {lo : Nat} {w : World} {v : Value} {css : List (List Nat)} (h : SO T1 T2 lo w v css) : SO T1 T2 lo w.drew v css := h
theorem SO.alloc {lo : Nat} {w : World} {v : Value} {css : List (List Nat)} (h : SO T1 T2 lo w v css) (o : Obj) : SO T1 T2 lo (w.alloc o) v css := h.keep ((Below.refl _ _).alloc (Nat.le_refl _) _)
theorem SO.ss {lo : Nat} {w : World} {v : Value} {css : List (List Nat)} (h : SO T1 T2 lo w v css) : SS w v css := by
  obtain ⟨vs, h1, h2, h3⟩ := h
  exact ⟨vs, h1.gl, h2, fun i x y => (h3 i x y).sb⟩
theorem SO.own_ge {lo : Nat} {w : World} {v : Value} {css : List (List Nat)} (h : SO T1 T2 lo w v css) : ∀ k, v.ownBlock = some k → lo ≤ k := by
  obtain ⟨vs, h1, -⟩ := h
  exact h1.own_ge
/-- One more slice of the call's own is appended. -/
theorem wpList_sapp (F : OneC P S T1 z by_) (hne : T1 ≠ T2) {ops : Array Oper} {Q : Exit → Act → World → Prop} {a : Act} {w : World} {rest : List Oper} {dst : Option Tmp} {s x : Operand} {type : TypeId} {pos : String} {after : Array Edge}
    (lo : Nat) (v : Value) (css : List (List Nat)) (hs : a.eval s = v) (hown : SO T1 T2 lo w v css) (u : Value) (cs : List Nat) (hu : OW T2 lo w u cs) (b : Nat) (hx : a.eval x = .slice (some ⟨b, 0, none⟩) 1 1) (hc : w.cell? ⟨b, 0, none⟩ = some u)
    (hl : css.length < 1099511627776) (hbase : lo ≤ w.heap.size)
    (h : ∀ v' w', SO T1 T2 lo w' v' (css ++ [cs]) → w.grownBy w' v.ownBlock → wpList P ops Q rest (a.put dst v') w') :
    wpList P ops Q ({ dst := dst, op := .call { callee := .builtin .append, args := #[s, x], argTypes := #[S, S] }, type := type, pos := pos, after := after, guard := none } :: rest) a w := by
  obtain ⟨i, hi, hz, hsz, hby⟩ := F.info
  have h16 := F.small
  obtain ⟨vs, hgo, hlen, hrows⟩ := hown
  refine wpList_append_own (P := P) w rfl s x S rfl lo T1 i z 1 by_ F.slice hi hz hsz hby (by rw [F.one]; rfl) (by decide) v vs.length _ hs hgo ⟨b, 0, none⟩ 1 1 [u] hx (by simp) ?_ ?_ ?_ ?_ hbase ?_
  · intro j y hy
    cases j with
    | zero => simp only [List.getElem?_cons_zero, Option.some.injEq] at hy; subst hy; simpa [Addr.add] using hc
    | succ j => simp at hy
  · intro y hy
    simp only [List.mem_singleton] at hy
    subst hy
    exact hu.one
  · have : maxLen = 9223372036854775807 := rfl
    omega
  · have : (vs.length + 1) * by_ ≤ 1099511627776 * 32 := Nat.mul_le_mul (by omega) h16
    omega
  · intro v' w' h1 h2 _
    refine h v' w' ⟨vs ++ [u], ?_, by simp [hlen], fun j h3 h4 => ?_⟩ h2
    · unfold GO
      rw [List.length_append, List.map_append]
      exact h1
    · rcases Nat.lt_or_ge j vs.length with hj | hj
      · rw [List.getElem_append_left hj, List.getElem_append_left (by omega)]
        have hr := hrows j hj (by omega)
        exact hr.kept h2 (hr.ne_go hgo (Ne.symm hne))
      · have hjl : j = vs.length := by simp at h3; omega
        subst hjl
        rw [List.getElem_append_right (Nat.le_refl _), List.getElem_append_right (by omega)]
        simp only [Nat.sub_self, hlen, List.getElem_cons_zero]
        exact hu.kept h2 (hu.ne_go hgo (Ne.symm hne))
end

end Go.Proofs.Ytkkomajokdlkeaa
