/- Contracts: which lists of what is saved are the same. -/
import Derived.Test.YtfckfdaloamkdaaK70
import Derived.Test.YtfckfdaloamkdaaK32
import Derived.Test.YtfckfdaloamkdaaK33
import Derived.Deep.QuietTactic
import Derived.BigQuiet
namespace Go.Proofs.Ytfckfdaloamkdaa
set_option linter.unusedSimpArgs false
set_option linter.unusedVariables false
set_option maxRecDepth 100000
set_option maxHeartbeats 4000000
open Go.RowKit
attribute [local go_sem] run_store_float run_store_complex alloc_drewN setCell_drewN

theorem str_ne {s s' : ByteArray} (h : s ≠ s') : (s.toList == s'.toList) = false := by
  rw [beq_eq_false_iff_ne]
  intro e
  rw [ByteArray.toList_eq, ByteArray.toList_eq] at e
  exact h (ByteArray.ext (Array.toList_inj.1 e))
/-- Two are the same. -/
def sdSame (x y : Sd) : Bool := decide (x.1 = y.1) && (decide (x.2.1 = y.2.1) && (x.2.2 == y.2.2))
def sdAll (L M : List Sd) : Nat → Bool
  | 0 => true
  | k + 1 => sdAll L M k && sdSame (L.getD k d0) (M.getD k d0)
def svSame (L M : List Sd) : Bool := decide (L.length = M.length) && sdAll L M L.length
theorem sdAll_no {L M : List Sd} {k n : Nat} (h : sdSame (L.getD k d0) (M.getD k d0) = false) (hk : k < n) : sdAll L M n = false := by
  induction n with
  | zero => omega
  | succ n ih =>
    rw [sdAll]
    rcases Nat.lt_or_ge k n with h1 | h1
    · rw [ih h1]; rfl
    · obtain rfl : k = n := by omega
      rw [h, Bool.and_false]
theorem svSame_len {L M : List Sd} (h : L.length ≠ M.length) : svSame L M = false := by rw [svSame, decide_eq_false h]; rfl
theorem svSame_no {L M : List Sd} {k : Nat} (h : sdSame (L.getD k d0) (M.getD k d0) = false) (hk : k < L.length) : svSame L M = false := by rw [svSame, sdAll_no h hk, Bool.and_false]
theorem svSame_yes {L M : List Sd} (h : L.length = M.length) (h2 : sdAll L M L.length = true) : svSame L M = true := by rw [svSame, decide_eq_true h, h2]; rfl

set_option maxRecDepth 100000 in
theorem s_SameSaved (u v : Value) (L M : List Sd) (w : World) (hu : SVL w u L) (hv : SVL w v M) :
    Calls Try.prog 15 #[u, v] w fun e w' => e = .returned (.bool (svSame L M)) ∧ Dr w w' := by
  obtain ⟨ao, c, rfl, hc1, hc2⟩ := hu.slice
  obtain ⟨bo, d, rfl, hd1, hd2⟩ := hv.slice
  have HC := Lib.hid (hu.get rfl)
  have HD := Lib.hid (hv.get rfl)
  clear hu hv
  by_cases hl : L.length = M.length
  · have hl2 : ((L.length : Int) != (M.length : Int)) = false := by simp; omega
    have HL := Lib.hid hl
    clear hl
    go_enter Try.func15, Try.ntmps15
    go_wp2_with fail
    go_loopw [13] (fun i wr => ∃ k : Nat, k ≤ L.length ∧ i = .int .i64 k ∧ Hid (sdAll L M k = true) ∧ ∃ d, wr = w.drewN d) (fun i _ => L.length - (intOf i).toNat)
    case atStart => exact ⟨0, Nat.zero_le _, rfl, rfl, 0, rfl⟩
    case round =>
      obtain ⟨k, hk, rfl, H1, dd, rfl⟩ := hrel
      by_cases hlt : k < L.length
      · have hlt' : k < M.length := by have := HL.out; omega
        obtain ⟨b, off, u, rfl, hbl, g0, g1, g2, g3, g4⟩ := HC.out k hlt
        obtain ⟨b', off', u', rfl, hbl', g0', g1', g2', g3', g4'⟩ := HD.out k hlt'
        have HNX := Lib.hid (show sdAll L M (k + 1) = (sdAll L M k && sdSame (L.getD k d0) (M.getD k d0)) from rfl)
        have HNO := Lib.hid (fun (h : sdSame (L.getD k d0) (M.getD k d0) = false) => svSame_no h hlt)
        obtain ⟨x, hx⟩ : ∃ x, x = L.getD k d0 := ⟨_, rfl⟩
        obtain ⟨y, hy⟩ : ∃ y, y = M.getD k d0 := ⟨_, rfl⟩
        rw [← hx] at g0 g1 g3 HNX HNO
        rw [← hy] at g0' g1' g3' HNX HNO
        obtain ⟨s, d, cs⟩ := x
        obtain ⟨s', d', cs'⟩ := y
        clear hx hy g4 g4'
        obtain ⟨uo, uc, rfl, hul⟩ := g3.slice
        obtain ⟨uo', uc', rfl, hul'⟩ := g3'.slice
        have HQ := Lib.hid (fun n => s_l01SameAll _ _ cs cs' (w.drewN (dd + n)) (g3.drewN _) (g3'.drewN _))
        have HQ0 := Lib.hid (fun n => s_l01SameAll _ _ cs cs' (w.drewN n) (g3.drewN _) (g3'.drewN _))
        clear g3 g3'
        have z0 : (0 : Int) ≤ (k : Int) := by omega
        have z1 : (k : Int) < (L.length : Int) := by omega
        have z2 : ((k : Int)).toNat = k := by omega
        have z3 : (k : Int) < (M.length : Int) := by omega
        by_cases hn : s = s'
        · subst hn
          by_cases hd : d = d'
          · subst hd
            cases hq : (cs == cs')
            all_goals
              have HE := Lib.hid hq
              clear hq
              simp only [sdSame, HE.out, decide_true, Bool.true_and] at HNX HNO
              rw [HE.out] at HQ HQ0
              go_wp2_with fail
              go_quiet ((go_at_call 50; first | exact quiet_dr2 (HQ.out _) | exact quiet_dr (HQ0.out _)))
              go_wp2_with fail
            · go_ret
              exact ⟨ret_bool (HNO.out trivial).symm, by first | exact Dr.mk _ _ | exact ⟨_, (World.drewN_drewN _ _ _).symm⟩⟩
            · exact ⟨⟨k + 1, by omega, by go_num, by show sdAll L M (k + 1) = true; rw [HNX.out, H1.out]; rfl, _, rfl⟩, by simp [intOf]; omega⟩
          · have hd2 : (d == d') = false := by simpa using hd
            have hd3 : (d != d') = true := by simpa using hd
            have hd4 : decide (d = d') = false := decide_eq_false hd
            have HE := Lib.hid hd4
            clear hd hd4
            go_wp2_with fail
            go_quiet (fail)
            go_wp2_with fail
            go_ret
            exact ⟨ret_bool (HNO.out (by simp only [sdSame, HE.out]; simp)).symm, by first | exact Dr.mk _ _ | exact ⟨_, (World.drewN_drewN _ _ _).symm⟩⟩
        · have hn2 := str_ne hn
          have hn3 : (s.toList != s'.toList) = true := by simp only [bne, hn2, Bool.not_false]
          have hn5 : ¬ s.toList = s'.toList := by simpa using hn2
          have hn4 : decide (s = s') = false := decide_eq_false hn
          have HE := Lib.hid hn4
          clear hn hn4
          go_wp2_with fail
          go_quiet (fail)
          go_wp2_with fail
          go_ret
          exact ⟨ret_bool (HNO.out (by simp only [sdSame, HE.out]; simp)).symm, by first | exact Dr.mk _ _ | exact ⟨_, (World.drewN_drewN _ _ _).symm⟩⟩
      · have hkn : k = L.length := by omega
        subst hkn
        go_wp2_with fail
        go_ret
        exact ⟨ret_bool (svSame_yes HL.out H1.out).symm, _, rfl⟩
  · have hl2 : ((L.length : Int) != (M.length : Int)) = true := by simp; omega
    have HL := Lib.hid hl
    clear hl
    go_enter Try.func15, Try.ntmps15
    go_wp2_with fail
    go_ret
    exact ⟨ret_bool (svSame_len HL.out).symm, Dr.refl _⟩

theorem i_SameSaved1 (s : ByteArray) (d : Int) (u : Value) (cs : List Nat) (s' : ByteArray) (d' : Int) (u' : Value) (cs' : List Nat) (w : World) (hu : SB w u cs) (hv : SB w u' cs') :
    Calls Try.prog 52 #[.agg #[.string s, .int .i64 d, u], .agg #[.string s', .int .i64 d', u']] w fun e w' => e = .returned (.bool (sdSame (s, d, cs) (s', d', cs'))) ∧ Below w.heap.size w w' := by
  obtain ⟨uo, uc, rfl, hul⟩ := hu.slice
  obtain ⟨uo', uc', rfl, hul'⟩ := hv.slice
  have HU := Lib.hid hu
  have HV := Lib.hid hv
  clear hu hv
  by_cases hn : s = s'
  · subst hn
    by_cases hd : d = d'
    · subst hd
      have HE := Lib.hid (show sdSame (s, d, cs) (s, d, cs') = (cs == cs') by simp [sdSame])
      go_enter Try.func52, Try.ntmps52
      go_wp2_with fail
      refine (f_EqualFunc _ same (fun _ _ => by kernel_rfl) (fun x y w hx hy => i_SameNumber x y hx hy w) _ _ cs cs' _ (HU.out.keep (by (repeat (first | with_reducible exact Below.refl _ _ | with_reducible assumption | with_reducible refine below_drewN ?_ _ | with_reducible refine Below.drew ?_ | with_reducible refine Below.alloc ?_ (by first | omega | (simp; omega) | (simp; done) | (simp at *; omega)) _ | with_reducible refine Below.setCell ?_ (by first | omega | (simp; omega) | (simp; done) | (simp at *; omega)) _ | refine Below.trans ?_ (Below.mono (by with_reducible assumption) (by first | omega | (simp; omega) | (simp; done) | (simp at *; omega))))))) (HV.out.keep (by (repeat (first | with_reducible exact Below.refl _ _ | with_reducible assumption | with_reducible refine below_drewN ?_ _ | with_reducible refine Below.drew ?_ | with_reducible refine Below.alloc ?_ (by first | omega | (simp; omega) | (simp; done) | (simp at *; omega)) _ | with_reducible refine Below.setCell ?_ (by first | omega | (simp; omega) | (simp; done) | (simp at *; omega)) _ | refine Below.trans ?_ (Below.mono (by with_reducible assumption) (by first | omega | (simp; omega) | (simp; done) | (simp at *; omega)))))))).mono ?_
      rintro z w3 ⟨rfl, n3, rfl⟩
      rw [all2_same]
      go_wp2_with fail
      go_ret
      exact ⟨ret_bool HE.out.symm, by (repeat (first | with_reducible exact Below.refl _ _ | with_reducible assumption | with_reducible refine below_drewN ?_ _ | with_reducible refine Below.drew ?_ | with_reducible refine Below.alloc ?_ (by first | omega | (simp; omega) | (simp; done) | (simp at *; omega)) _ | with_reducible refine Below.setCell ?_ (by first | omega | (simp; omega) | (simp; done) | (simp at *; omega)) _ | refine Below.trans ?_ (Below.mono (by with_reducible assumption) (by first | omega | (simp; omega) | (simp; done) | (simp at *; omega)))))⟩
    · have hd2 : (d == d') = false := by simpa using hd
      have HE := Lib.hid (show sdSame (s, d, cs) (s, d', cs') = false by simp [sdSame, hd])
      clear hd
      go_enter Try.func52, Try.ntmps52
      go_wp2_with fail
      go_ret
      exact ⟨ret_bool HE.out.symm, by (repeat (first | with_reducible exact Below.refl _ _ | with_reducible assumption | with_reducible refine below_drewN ?_ _ | with_reducible refine Below.drew ?_ | with_reducible refine Below.alloc ?_ (by first | omega | (simp; omega) | (simp; done) | (simp at *; omega)) _ | with_reducible refine Below.setCell ?_ (by first | omega | (simp; omega) | (simp; done) | (simp at *; omega)) _ | refine Below.trans ?_ (Below.mono (by with_reducible assumption) (by first | omega | (simp; omega) | (simp; done) | (simp at *; omega)))))⟩
  · have hn2 := str_ne hn
    have HE := Lib.hid (show sdSame (s, d, cs) (s', d', cs') = false by simp [sdSame, hn])
    clear hn
    go_enter Try.func52, Try.ntmps52
    go_wp2_with fail
    go_ret
    exact ⟨ret_bool HE.out.symm, by (repeat (first | with_reducible exact Below.refl _ _ | with_reducible assumption | with_reducible refine below_drewN ?_ _ | with_reducible refine Below.drew ?_ | with_reducible refine Below.alloc ?_ (by first | omega | (simp; omega) | (simp; done) | (simp at *; omega)) _ | with_reducible refine Below.setCell ?_ (by first | omega | (simp; omega) | (simp; done) | (simp at *; omega)) _ | refine Below.trans ?_ (Below.mono (by with_reducible assumption) (by first | omega | (simp; omega) | (simp; done) | (simp at *; omega)))))⟩

set_option maxRecDepth 100000 in
theorem f_EqualFuncS (u v : Value) (L M : List Sd) (w : World) (hu : SVL w u L) (hv : SVL w v M) :
    Calls Try.prog 51 #[u, v, .func (.func 52) #[] #[]] w fun e w' => e = .returned (.bool (svSame L M)) ∧ Below w.heap.size w w' := by
  obtain ⟨ao, c, rfl, hc1, hc2⟩ := hu.slice
  obtain ⟨bo, d, rfl, hd1, hd2⟩ := hv.slice
  have HC := Lib.hid (hu.get rfl)
  have HD := Lib.hid (hv.get rfl)
  clear hu hv
  have hE : Enters 52 := fun _ _ => by kernel_rfl
  unfold Enters at hE
  by_cases hl : L.length = M.length
  · have hl2 : ((L.length : Int) != (M.length : Int)) = false := by simp; omega
    have HL := Lib.hid hl
    clear hl
    go_enter Try.func51, Try.ntmps51
    go_wp2_with fail
    go_loopw [17] (fun i wr => ∃ k : Nat, k ≤ L.length ∧ i = .int .i64 k ∧ Hid (sdAll L M k = true) ∧ Below w.heap.size w wr) (fun i _ => L.length - (intOf i).toNat)
    case atStart => exact ⟨0, Nat.zero_le _, rfl, rfl, Below.refl _ _⟩
    case round =>
      obtain ⟨k, hk, rfl, H1, hbw⟩ := hrel
      by_cases hlt : k < L.length
      · have hlt' : k < M.length := by have := HL.out; omega
        obtain ⟨b, off, u, rfl, hbl, g0, g1, g2, g3, g4⟩ := HC.out k hlt
        obtain ⟨b', off', u', rfl, hbl', g0', g1', g2', g3', g4'⟩ := HD.out k hlt'
        have q0 := (hbw.cell (p := ⟨b, off + k * 3, none⟩) hbl).trans g0
        have q1 := (hbw.cell (p := ⟨b, off + k * 3 + 1, none⟩) hbl).trans g1
        have q2 := (hbw.cell (p := ⟨b, off + k * 3 + 2, none⟩) hbl).trans g2
        have q0' := (hbw.cell (p := ⟨b', off' + k * 3, none⟩) hbl').trans g0'
        have q1' := (hbw.cell (p := ⟨b', off' + k * 3 + 1, none⟩) hbl').trans g1'
        have q2' := (hbw.cell (p := ⟨b', off' + k * 3 + 2, none⟩) hbl').trans g2'
        have G3 := Lib.hid (g3.keep hbw)
        have G3' := Lib.hid (g3'.keep hbw)
        have z3 : b < wr.heap.size := Nat.lt_of_lt_of_le hbl hbw.size
        have z4 : b' < wr.heap.size := Nat.lt_of_lt_of_le hbl' hbw.size
        have HNX := Lib.hid (show sdAll L M (k + 1) = (sdAll L M k && sdSame (L.getD k d0) (M.getD k d0)) from rfl)
        have HNO := Lib.hid (fun (h : sdSame (L.getD k d0) (M.getD k d0) = false) => svSame_no h hlt)
        obtain ⟨x, hx⟩ : ∃ x, x = L.getD k d0 := ⟨_, rfl⟩
        obtain ⟨y, hy⟩ : ∃ y, y = M.getD k d0 := ⟨_, rfl⟩
        rw [← hx] at q0 q1 G3 HNX HNO
        rw [← hy] at q0' q1' G3' HNX HNO
        obtain ⟨s, d, cs⟩ := x
        obtain ⟨s', d', cs'⟩ := y
        clear hx hy g4 g4' g0 g1 g2 g3 g0' g1' g2' g3'
        obtain ⟨uo, uc, rfl, hul⟩ := G3.out.slice
        obtain ⟨uo', uc', rfl, hul'⟩ := G3'.out.slice
        cases hq : sdSame (s, d, cs) (s', d', cs')
        all_goals
          have HE := Lib.hid hq
          clear hq
          go_wp2_with fail
          refine (i_SameSaved1 s d _ cs s' d' _ cs' _ (G3.out.keep (by (repeat (first | with_reducible exact Below.refl _ _ | with_reducible assumption | with_reducible refine below_drewN ?_ _ | with_reducible refine Below.drew ?_ | with_reducible refine Below.alloc ?_ (by first | omega | (simp; omega) | (simp; done) | (simp at *; omega)) _ | with_reducible refine Below.setCell ?_ (by first | omega | (simp; omega) | (simp; done) | (simp at *; omega)) _ | refine Below.trans ?_ (Below.mono (by with_reducible assumption) (by first | omega | (simp; omega) | (simp; done) | (simp at *; omega))))))) (G3'.out.keep (by (repeat (first | with_reducible exact Below.refl _ _ | with_reducible assumption | with_reducible refine below_drewN ?_ _ | with_reducible refine Below.drew ?_ | with_reducible refine Below.alloc ?_ (by first | omega | (simp; omega) | (simp; done) | (simp at *; omega)) _ | with_reducible refine Below.setCell ?_ (by first | omega | (simp; omega) | (simp; done) | (simp at *; omega)) _ | refine Below.trans ?_ (Below.mono (by with_reducible assumption) (by first | omega | (simp; omega) | (simp; done) | (simp at *; omega)))))))).mono ?_
          rintro z w1 ⟨rfl, hb1⟩
          have hbz := hbw.size
          replace hbw := Below.trans (show Below w.heap.size w _ from by (repeat (first | with_reducible exact Below.refl _ _ | with_reducible assumption | with_reducible refine below_drewN ?_ _ | with_reducible refine Below.drew ?_ | with_reducible refine Below.alloc ?_ (by first | omega | (simp; omega) | (simp; done) | (simp at *; omega)) _ | with_reducible refine Below.setCell ?_ (by first | omega | (simp; omega) | (simp; done) | (simp at *; omega)) _ | refine Below.trans ?_ (Below.mono (by with_reducible assumption) (by first | omega | (simp; omega) | (simp; done) | (simp at *; omega)))))) (Below.mono hb1 (by first | omega | (simp; omega)))
          rw [HE.out]
          go_wp2_with fail
        · go_ret
          exact ⟨ret_bool (HNO.out HE.out).symm, hbw⟩
        · exact ⟨⟨k + 1, by omega, by go_num, by show sdAll L M (k + 1) = true; rw [HNX.out, H1.out, HE.out]; rfl, hbw⟩, by simp [intOf]; omega⟩
      · have hkn : k = L.length := by omega
        subst hkn
        go_wp2_with fail
        go_ret
        exact ⟨ret_bool (svSame_yes HL.out H1.out).symm, hbw⟩
  · have hl2 : ((L.length : Int) != (M.length : Int)) = true := by simp; omega
    have HL := Lib.hid hl
    clear hl
    go_enter Try.func51, Try.ntmps51
    go_wp2_with fail
    go_ret
    exact ⟨ret_bool (svSame_len HL.out).symm, Below.refl _ _⟩

theorem i_SameSaved (u v : Value) (L M : List Sd) (w : World) (hu : SVL w u L) (hv : SVL w v M) :
    Calls Try.prog 17 #[u, v] w fun e w' => e = .returned (.bool (svSame L M)) ∧ Below w.heap.size w w' := by
  go_enter Try.func17, Try.ntmps17
  go_wp2_with fail
  refine (f_EqualFuncS _ _ L M _ hu hv).mono ?_
  rintro z w1 ⟨rfl, hb1⟩
  go_wp2_with fail
  go_ret
  exact ⟨rfl, hb1⟩

end Go.Proofs.Ytfckfdaloamkdaa
