/- Contracts: the nearest one of a list of series. -/
import Derived.Deep.QuietTactic
import Derived.BigQuiet
import Derived.Test.YtkkomajokdlkeaaQ8
import Derived.Test.YtkkomajokdlkeaaQ20
namespace Go.Proofs.Ytkkomajokdlkeaa
set_option linter.unusedSimpArgs false
set_option linter.unusedVariables false
set_option maxRecDepth 100000
set_option maxHeartbeats 4000000
open Go.RowKit
attribute [local go_sem] run_store_float run_store_complex alloc_drewN setCell_drewN

def indexS (p : List Nat → Bool) (cs : List (List Nat)) : Int := match cs.findIdx? p with | some i => i | none => -1
theorem indexS_found {p : List Nat → Bool} {cs : List (List Nat)} {k : Nat} (hk : k < cs.length) (h1 : ∀ i, i < k → p (cs.getD i []) = false) (h2 : p (cs.getD k []) = true) : indexS p cs = k := by
  have hg : ∀ i (h : i < cs.length), cs.getD i [] = cs[i] := fun i h => by simp [h]
  have : cs.findIdx? p = some k := by
    rw [List.findIdx?_eq_some_iff_getElem]
    refine ⟨hk, by rw [← hg]; exact h2, fun j hj => ?_⟩
    rw [← hg j (by omega), h1 j hj]; simp
  simp [indexS, this]
theorem indexS_none {p : List Nat → Bool} {cs : List (List Nat)} (h1 : ∀ i, i < cs.length → p (cs.getD i []) = false) : indexS p cs = -1 := by
  have hg : ∀ i (h : i < cs.length), cs.getD i [] = cs[i] := fun i h => by simp [h]
  have : cs.findIdx? p = none := by
    rw [List.findIdx?_eq_none_iff]
    intro x hx
    obtain ⟨i, hi, rfl⟩ := List.getElem_of_mem hx
    rw [← hg i hi, h1 i hi]
  simp [indexS, this]
theorem indexS_geq (p : List Nat → Bool) (cs : List (List Nat)) : decide (0 ≤ indexS p cs) = cs.any p := by
  unfold indexS
  cases h : cs.findIdx? p with
  | none =>
    rw [List.findIdx?_eq_none_iff] at h
    have : cs.any p = false := by rw [List.any_eq_false]; intro x hx; simp [h x hx]
    rw [this]; rfl
  | some i =>
    obtain ⟨hi, h1, h2⟩ := List.findIdx?_eq_some_iff_getElem.1 h
    have : cs.any p = true := List.any_eq_true.2 ⟨cs[i], List.getElem_mem _, h1⟩
    rw [this]; simp
theorem any_notS (p : List Nat → Bool) (cs : List (List Nat)) : (!cs.any fun c => !p c) = cs.all p := by
  induction cs with
  | nil => rfl
  | cons c cs ih => simp [List.any_cons, List.all_cons, ← ih]
/-- A function value that asks something of a slice of numbers, and reads what it has captured. -/
def AsksS (F : Nat) (p : Value) (w : World) (g : List Nat → Bool) : Prop :=
  ∀ v cs w', Below w.heap.size w w' → SB w' v cs → Calls Try.prog F #[v, p] w' fun e w'' => e = .returned (.bool (g cs)) ∧ Dr w' w''
theorem AsksS.at {F : Nat} {p : Value} {w : World} {g : List Nat → Bool} (h : AsksS F p w g) (v : Value) (cs : List Nat) (w' : World) (hb : Below w.heap.size w w') (hs : SB w' v cs) :
    Calls Try.prog F #[v, p] w' fun e w'' => e = .returned (.bool (g cs)) ∧ Dr w' w'' := h v cs w' hb hs
def Enters1 (F : Nat) : Prop := ∀ (args : Array Value) (w : World), (callFunc F args).run Try.prog w = .ok (.enter F args) w

def headL (css : List (List Nat)) : List Nat := css.getD 0 []
def rowL (css : List (List Nat)) (k : Nat) : List Nat := css.getD k []
def lensOk (css : List (List Nat)) : Bool := decide (1 ≤ css.length) && decide (css.length ≤ 16)
/-- There is a list of series of the same length. -/
def listOk (css : List (List Nat)) : Bool := lensOk css && css.all fun a => twoOk a (headL css)
theorem head_mem {css : List (List Nat)} (h : 1 ≤ css.length) : headL css ∈ css := by
  cases css with
  | nil => simp at h
  | cons c cs => exact List.mem_cons_self ..
theorem rowL_eq {css : List (List Nat)} {k : Nat} (h : k < css.length) : rowL css k = css[k] := by simp [rowL, h]
theorem listOk_two {css : List (List Nat)} (h : listOk css = true) {k : Nat} (hk : k < css.length) : twoOk (rowL css k) (headL css) = true := by
  simp only [listOk, Bool.and_eq_true, List.all_eq_true] at h
  rw [rowL_eq hk]
  exact h.2 _ (List.getElem_mem hk)
theorem listOk_len {css : List (List Nat)} (h : listOk css = true) : 1 ≤ css.length ∧ css.length ≤ 16 := by
  simp only [listOk, lensOk, Bool.and_eq_true, decide_eq_true_eq] at h
  exact h.1
theorem two_iff {a b : List Nat} : twoOk a b = true ↔ series a = true ∧ series b = true ∧ a.length = b.length := by
  simp only [twoOk, Bool.and_eq_true, decide_eq_true_eq]
  exact ⟨fun ⟨⟨h1, h2⟩, h3⟩ => ⟨h1, h2, h3⟩, fun ⟨h1, h2, h3⟩ => ⟨⟨h1, h2⟩, h3⟩⟩
/-- As the reference asks it: each one is a series, and as long as the first. -/
theorem listOk_of {css : List (List Nat)} (hl : lensOk css = true) (h : ∀ i, i < css.length → series (rowL css i) = true ∧ (rowL css i).length = (headL css).length) : listOk css = true := by
  have h1 : 1 ≤ css.length := by simp only [lensOk, Bool.and_eq_true, decide_eq_true_eq] at hl; exact hl.1
  have h0 : series (headL css) = true := (h 0 (by omega)).1
  simp only [listOk, hl, Bool.true_and, List.all_eq_true]
  intro x hx
  obtain ⟨i, hi, rfl⟩ := List.getElem_of_mem hx
  have := h i hi
  rw [rowL_eq hi] at this
  exact two_iff.2 ⟨this.1, h0, this.2⟩
theorem listOk_no {css : List (List Nat)} {k : Nat} (hk : k < css.length) (h : (series (rowL css k) && decide ((rowL css k).length = (headL css).length)) = false) : listOk css = false := by
  cases e : listOk css
  · rfl
  · have := two_iff.1 (listOk_two e hk)
    rw [this.1, this.2.2] at h
    simp at h
/-- The best one among the first ones, and how far it is. -/
def nsAt (css : List (List Nat)) (x : List Nat) : Nat → Int × Nat
  | 0 => (0, 0)
  | k + 1 => if k = 0 then (0, farL (rowL css k) x) else if fc .lss .f32 (farL (rowL css k) x) (nsAt css x k).2 then ((k : Int), farL (rowL css k) x) else nsAt css x k
def nsFin (css : List (List Nat)) (x : List Nat) : Nat → Bool
  | 0 => true
  | k + 1 => nsFin css x k && fin (farL (rowL css k) x)
theorem nsFin_mono {css : List (List Nat)} {x : List Nat} {i j : Nat} (hij : i ≤ j) (h : nsFin css x i = false) : nsFin css x j = false := by
  induction hij with
  | refl => exact h
  | step _ ih => show (_ && _) = false; rw [ih]; rfl
/-- The nearest one, and whether all are finite. -/
def nearL (css : List (List Nat)) (x : List Nat) : Int × Nat × Bool := if nsFin css x css.length then ((nsAt css x css.length).1, (nsAt css x css.length).2, true) else (0, 0, false)
def nsQ (css : List (List Nat)) (x : List Nat) : Int × Nat × Bool := if listOk css && twoOk x (headL css) then nearL css x else (0, 0, false)
theorem nsQ_no {css : List (List Nat)} {x : List Nat} (h : (listOk css && twoOk x (headL css)) = false) : nsQ css x = (0, 0, false) := by rw [nsQ, h]; rfl
theorem nsQ_yes {css : List (List Nat)} {x : List Nat} (h : (listOk css && twoOk x (headL css)) = true) : nsQ css x = nearL css x := by rw [nsQ, h]; rfl
theorem nearL_no {css : List (List Nat)} {x : List Nat} {k : Nat} (hk : k < css.length) (h : fin (farL (rowL css k) x) = false) : nearL css x = (0, 0, false) := by
  have : nsFin css x css.length = false := nsFin_mono (i := k + 1) hk (by show (_ && _) = false; rw [h]; simp)
  rw [nearL, this]; rfl
theorem nearL_yes {css : List (List Nat)} {x : List Nat} (h : nsFin css x css.length = true) : nearL css x = ((nsAt css x css.length).1, (nsAt css x css.length).2, true) := by rw [nearL, h]; rfl
def NE (e : Ending) (q : Int × Nat × Bool) : Prop := ∃ n r b, e = .returned (.tuple #[.int .i64 n, .float .f32 r, .bool b]) ∧ r < 4294967296 ∧ n = q.1 ∧ cn .f32 r = q.2.1 ∧ b = q.2.2
theorem NE.no {q : Int × Nat × Bool} (hq : q = (0, 0, false)) : NE (.returned (.tuple #[.int .i64 0, .float .f32 0, .bool false])) q := by
  subst hq; exact ⟨_, _, _, rfl, by omega, rfl, cn0, rfl⟩

theorem f_IndexFuncS (F : Nat) (p : Value) (g : List Nat → Bool) (hE : Enters1 F) (v : Value) (css : List (List Nat)) (w : World) (hv : SS w v css) (hF : AsksS F p w g) :
    Calls Try.prog 119 #[v, .func (.func F) #[] #[p]] w fun e w' => e = .returned (.int .i64 (indexS g css)) ∧ Dr w w' := by
  obtain ⟨ao, c, rfl, hc1, hc2, hget⟩ := hv.get rfl
  have HF := Lib.hid hF
  have HC := Lib.hid hget
  clear hF hget hv
  unfold Enters1 at hE
  go_enter Try.func119, Try.ntmps119
  go_wp2_with fail
  go_loopw [8] (fun i wr => ∃ k : Nat, k ≤ css.length ∧ i = .int .i64 k ∧ Hid (∀ i, i < k → g (css.getD i []) = false) ∧ ∃ d, wr = w.drewN d) (fun i _ => css.length - (intOf i).toNat)
  case atStart => exact ⟨0, Nat.zero_le _, rfl, (by intro i hi; omega), 0, rfl⟩
  case round =>
    obtain ⟨k, hk, rfl, H1, d, rfl⟩ := hrel
    by_cases hlt : k < css.length
    · obtain ⟨b, off, u, rfl, hb, hc, hs⟩ := HC.out k hlt
      obtain ⟨xk, hxk⟩ : ∃ xk, xk = css.getD k [] := ⟨_, rfl⟩
      rw [← hxk] at hs
      have HS := Lib.hid hs
      have HX := Lib.hid hxk
      clear hxk hs
      cases hp : g xk
      all_goals
        have HP := Lib.hid hp
        clear hp
        go_wp2_with ((with_reducible refine (AsksS.at HF.out _ xk _ (below_drewN (Below.refl _ _) _) (SB.drewN HS.out _)).mono ?_); rintro e w1 ⟨rfl, n, rfl⟩; rw [HP.out])
      · refine ⟨⟨k + 1, by omega, by go_num, ?_, _, rfl⟩, by simp [intOf]; omega⟩
        intro i hi
        rcases Nat.lt_or_ge i k with h | h
        · exact H1.out i h
        · obtain rfl : i = k := by omega
          rw [← HX.out]; exact HP.out
      · go_ret
        refine ⟨ret_int ?_, _, rfl⟩
        exact (indexS_found hlt H1.out (by rw [← HX.out]; exact HP.out)).symm
    · go_wp2_with fail
      go_ret
      obtain rfl : k = css.length := by omega
      exact ⟨ret_int (indexS_none H1.out).symm, _, rfl⟩

theorem f_ContainsFuncS (F : Nat) (p : Value) (g : List Nat → Bool) (hE : Enters1 F) (v : Value) (css : List (List Nat)) (w : World) (hv : SS w v css) (hF : AsksS F p w g) :
    Calls Try.prog 58 #[v, .func (.func F) #[] #[p]] w fun e w' => e = .returned (.bool (css.any g)) ∧ Dr w w' := by
  go_enter Try.func58, Try.ntmps58
  go_wp2_with (go_at_call 119; refine (f_IndexFuncS F p g hE v css _ hv hF).mono ?_; rintro e w1 ⟨rfl, n, rfl⟩)
  go_ret
  refine ⟨?_, _, rfl⟩
  rw [← indexS_geq]; rfl

theorem i_areShapes1 (b : Nat) (l : Value) (css : List (List Nat)) (w : World) (hb : b < w.heap.size) (hm : w.cell? ⟨b, 0, none⟩ = some l) (hv : SS w l css) (h0 : 1 ≤ css.length) :
    AsksS 118 (.pointer (some ⟨b, 0, none⟩)) w (fun cs => !twoOk cs (headL css)) := by
  intro v cs w' hB hs
  have h1 := (hB.cell (p := ⟨b, 0, none⟩) hb).trans hm
  obtain ⟨ao, c, rfl, hc1, hc2, hget⟩ := (hv.keep hB).get rfl
  obtain ⟨b0, off, u, rfl, hb0, hc0, hs0⟩ := hget 0 (by omega)
  have hs0 : SB w' u (headL css) := hs0
  have HS := Lib.hid hs
  have HS0 := Lib.hid hs0
  rw [Nat.add_zero] at hc0
  clear hm hget hv hs hs0
  go_enter Try.func118, Try.ntmps118
  go_wp2_with (go_at_call 89; refine (i_areTwo _ _ cs (headL css) _ HS.out.sl HS0.out.sl).mono ?_; rintro e w1 ⟨rfl, n, rfl⟩)
  go_ret
  exact ⟨rfl, _, rfl⟩
theorem i_areShapes (v : Value) (css : List (List Nat)) (w : World) (hv : SS w v css) :
    Calls Try.prog 55 #[v] w fun e w' => e = .returned (.bool (listOk css)) ∧ Below w.heap.size w w' := by
  have HV := Lib.hid hv
  obtain ⟨ao, c, rfl, hc1, hc2⟩ := hv.slice
  clear hv
  by_cases h1 : 1 ≤ css.length
  · by_cases h2 : css.length ≤ 16
    · have HL := Lib.hid (show lensOk css = true by simp [lensOk, h1, h2])
      go_enter Try.func55, Try.ntmps55
      go_wp2_with (go_at_call 58; refine (f_ContainsFuncS 118 _ (fun cs => !twoOk cs (headL css)) (fun _ _ => by kernel_rfl) _ css _ (HV.out.keep (by (repeat (first | with_reducible exact Below.refl _ _ | with_reducible assumption | with_reducible refine below_drewN ?_ _ | with_reducible refine Below.drew ?_ | with_reducible refine Below.alloc ?_ (by first | omega | (simp; omega) | (simp; done) | (simp at *; omega)) _ | with_reducible refine Below.setCell ?_ (by first | omega | (simp; omega) | (simp; done) | (simp at *; omega)) _ | refine Below.trans ?_ (Below.mono (by with_reducible assumption) (by first | omega | (simp; omega) | (simp; done) | (simp at *; omega))))))) (i_areShapes1 _ (.slice ao css.length c) css _ (by simp; try omega) (by go_simp) (HV.out.keep (by (repeat (first | with_reducible exact Below.refl _ _ | with_reducible assumption | with_reducible refine below_drewN ?_ _ | with_reducible refine Below.drew ?_ | with_reducible refine Below.alloc ?_ (by first | omega | (simp; omega) | (simp; done) | (simp at *; omega)) _ | with_reducible refine Below.setCell ?_ (by first | omega | (simp; omega) | (simp; done) | (simp at *; omega)) _ | refine Below.trans ?_ (Below.mono (by with_reducible assumption) (by first | omega | (simp; omega) | (simp; done) | (simp at *; omega))))))) h1)).mono ?_; rintro e w1 ⟨rfl, n, rfl⟩)
      all_goals
        go_ret
        refine ⟨ret_bool ?_, by (repeat (first | with_reducible exact Below.refl _ _ | with_reducible assumption | with_reducible refine below_drewN ?_ _ | with_reducible refine Below.drew ?_ | with_reducible refine Below.alloc ?_ (by first | omega | (simp; omega) | (simp; done) | (simp at *; omega)) _ | with_reducible refine Below.setCell ?_ (by first | omega | (simp; omega) | (simp; done) | (simp at *; omega)) _ | refine Below.trans ?_ (Below.mono (by with_reducible assumption) (by first | omega | (simp; omega) | (simp; done) | (simp at *; omega)))))⟩
        rw [listOk, HL.out, ← any_notS]; rfl
    · have HL := Lib.hid (show lensOk css = false by simp [lensOk, h2])
      go_enter Try.func55, Try.ntmps55
      go_wp2_with fail
      go_ret
      exact ⟨ret_bool (by rw [listOk, HL.out]; rfl), by (repeat (first | with_reducible exact Below.refl _ _ | with_reducible assumption | with_reducible refine below_drewN ?_ _ | with_reducible refine Below.drew ?_ | with_reducible refine Below.alloc ?_ (by first | omega | (simp; omega) | (simp; done) | (simp at *; omega)) _ | with_reducible refine Below.setCell ?_ (by first | omega | (simp; omega) | (simp; done) | (simp at *; omega)) _ | refine Below.trans ?_ (Below.mono (by with_reducible assumption) (by first | omega | (simp; omega) | (simp; done) | (simp at *; omega)))))⟩
  · have HL := Lib.hid (show lensOk css = false by simp [lensOk, h1])
    go_enter Try.func55, Try.ntmps55
    go_wp2_with fail
    go_ret
    exact ⟨ret_bool (by rw [listOk, HL.out]; rfl), by (repeat (first | with_reducible exact Below.refl _ _ | with_reducible assumption | with_reducible refine below_drewN ?_ _ | with_reducible refine Below.drew ?_ | with_reducible refine Below.alloc ?_ (by first | omega | (simp; omega) | (simp; done) | (simp at *; omega)) _ | with_reducible refine Below.setCell ?_ (by first | omega | (simp; omega) | (simp; done) | (simp at *; omega)) _ | refine Below.trans ?_ (Below.mono (by with_reducible assumption) (by first | omega | (simp; omega) | (simp; done) | (simp at *; omega)))))⟩

theorem s_l07List (v : Value) (css : List (List Nat)) (w : World) (hv : SS w v css) :
    Calls Try.prog 61 #[v] w fun e w' => e = .returned (.bool (listOk css)) ∧ Dr w w' := by
  obtain ⟨ao, c, rfl, hc1, hc2, hget⟩ := hv.get rfl
  have HG := Lib.hid hget
  clear hget hv
  by_cases h1 : 1 ≤ css.length
  · by_cases h2 : css.length ≤ 16
    · have HL := Lib.hid (show lensOk css = true by simp [lensOk, h1, h2])
      go_enter Try.func61, Try.ntmps61
      go_wp2_with fail
      go_loopw [14] (fun i wr => ∃ k : Nat, k ≤ css.length ∧ i = .int .i64 k ∧ Hid (∀ i, i < k → series (rowL css i) = true ∧ (rowL css i).length = (headL css).length) ∧ ∃ d, wr = w.drewN d) (fun i _ => css.length - (intOf i).toNat)
      case atStart => exact ⟨0, Nat.zero_le _, rfl, (by intro i hi; omega), 0, rfl⟩
      case round =>
        obtain ⟨k, hk, rfl, H1, d, rfl⟩ := hrel
        by_cases hlt : k < css.length
        · obtain ⟨b, off, u, rfl, hbl, hc, hs⟩ := HG.out k hlt
          obtain ⟨b0, off0, u0, e0, hbl0, hc0, hs0⟩ := HG.out 0 (by omega)
          simp only [Option.some.injEq, Addr.mk.injEq, and_true] at e0
          obtain ⟨rfl, rfl⟩ := e0
          rw [Nat.add_zero] at hc0
          obtain ⟨xk, hxk⟩ : ∃ xk, xk = rowL css k := ⟨_, rfl⟩
          obtain ⟨x0, hx0⟩ : ∃ x0, x0 = headL css := ⟨_, rfl⟩
          have hs : SB w u xk := by rw [hxk]; exact hs
          have hs0 : SB w u0 x0 := by rw [hx0]; exact hs0
          obtain ⟨ak, ck, rfl, hlk⟩ := hs.sl.slice
          obtain ⟨a0, c0, rfl, hl0⟩ := hs0.sl.slice
          have HX := Lib.hid hxk
          have HX0 := Lib.hid hx0
          have HSK := Lib.hid hs
          clear hxk hx0 hs hs0
          have h00 : (0 : Int) < (css.length : Int) := by omega
          cases hp : series xk
          · have HP := Lib.hid hp
            have HQ := Lib.hid (fun n => s_l02Series _ xk (w.drewN n) (HSK.out.drewN n).sl)
            rw [hp] at HQ
            clear hp
            go_wp2_with fail
            go_quiet ((go_at_call 65; first | exact quiet_dr (HQ.out _) | exact quiet_dr2 (HQ.out _)))
            all_goals
              go_wp2_with fail
              go_ret
              refine ⟨ret_bool (listOk_no hlt ?_).symm, by first | exact ⟨_, rfl⟩ | exact ⟨_, (World.drewN_drewN ..).symm⟩⟩
              rw [← HX.out, HP.out]; rfl
          · have HP := Lib.hid hp
            have HQ := Lib.hid (fun n => s_l02Series _ xk (w.drewN n) (HSK.out.drewN n).sl)
            rw [hp] at HQ
            clear hp
            by_cases hll : xk.length = x0.length
            · have hl1 : ((xk.length : Int) != (x0.length : Int)) = false := by simp; omega
              have HLL := Lib.hid hll
              clear hll
              go_wp2_with fail
              go_quiet ((go_at_call 65; first | exact quiet_dr (HQ.out _) | exact quiet_dr2 (HQ.out _)))
              all_goals
                go_wp2_with fail
                refine ⟨⟨k + 1, by omega, by go_num, ?_, by first | exact ⟨_, rfl⟩ | exact ⟨_, (World.drewN_drewN ..).symm⟩⟩, by simp [intOf]; omega⟩
                intro i hi
                rcases Nat.lt_or_ge i k with h | h
                · exact H1.out i h
                · obtain rfl : i = k := by omega
                  rw [← HX.out, ← HX0.out]; exact ⟨HP.out, HLL.out⟩
            · have hl1 : ((xk.length : Int) != (x0.length : Int)) = true := by simp; omega
              have HLL := Lib.hid hll
              clear hll
              go_wp2_with fail
              go_quiet ((go_at_call 65; first | exact quiet_dr (HQ.out _) | exact quiet_dr2 (HQ.out _)))
              all_goals
                go_wp2_with fail
                go_ret
                refine ⟨ret_bool (listOk_no hlt ?_).symm, by first | exact ⟨_, rfl⟩ | exact ⟨_, (World.drewN_drewN ..).symm⟩⟩
                rw [← HX.out, ← HX0.out]
                simp [HLL.out]
        · go_wp2_with fail
          go_ret
          obtain rfl : k = css.length := by omega
          exact ⟨ret_bool (listOk_of HL.out H1.out).symm, _, rfl⟩
    · have HL := Lib.hid (show lensOk css = false by simp [lensOk, h2])
      go_enter Try.func61, Try.ntmps61
      go_wp2_with fail
      go_ret
      exact ⟨ret_bool (by rw [listOk, HL.out]; rfl), Dr.refl _⟩
  · have HL := Lib.hid (show lensOk css = false by simp [lensOk, h1])
    go_enter Try.func61, Try.ntmps61
    go_wp2_with fail
    go_ret
    exact ⟨ret_bool (by rw [listOk, HL.out]; rfl), Dr.refl _⟩

end Go.Proofs.Ytkkomajokdlkeaa
