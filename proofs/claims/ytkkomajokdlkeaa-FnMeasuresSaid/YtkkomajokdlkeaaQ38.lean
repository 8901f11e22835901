/- Contracts: misses by their roots, by the program. -/
import Derived.Test.YtkkomajokdlkeaaQ17
import Derived.Test.YtkkomajokdlkeaaQ21
import Derived.Test.YtkkomajokdlkeaaQ28
import Derived.Test.YtkkomajokdlkeaaQ34
import Derived.Test.YtkkomajokdlkeaaQ37
namespace Go.Proofs.Ytkkomajokdlkeaa
set_option linter.unusedSimpArgs false
set_option linter.unusedVariables false
set_option maxRecDepth 100000
set_option maxHeartbeats 4000000
open Go.RowKit
attribute [local go_sem] run_store_float run_store_complex alloc_drewN setCell_drewN
/-- Numbers without a sign, or infinite. -/
def posF (c : Nat) : Prop := c ≤ 2139095040
theorem near_pos (m : Nat) (p : Int) : posF (S.nearest false m p) := by
  unfold posF Ieee.Format.nearest
  by_cases h : m = 0
  · rw [if_pos h]; unfold Ieee.Format.word; simp only [Bool.false_eq_true, if_false]; omega
  · rw [if_neg h]
    show S.word false (min _ S.infRung) ≤ _
    unfold Ieee.Format.word
    rw [s_inf]
    simp only [Bool.false_eq_true, if_false]
    exact Nat.min_le_right _ _
theorem posF.read {c : Nat} (h : posF c) : (∃ m p, S.read c = .number false m p) ∨ S.read c = .infinity false := by
  unfold posF at h
  rw [read_single]
  have h1 : c % 2147483648 = c := by omega
  have h2 : (c / 2147483648 % 2 == 1) = false := by rw [show c / 2147483648 = 0 by omega]; rfl
  rw [h1, h2]
  split
  · exact .inl ⟨_, _, rfl⟩
  · split
    · exact .inl ⟨_, _, rfl⟩
    · rw [if_pos (by omega)]; exact .inr rfl
theorem posF.notNaN {c : Nat} (h : posF c) : (S.read c).isNaN = false := by
  rcases h.read with ⟨m, p, e⟩ | e <;> rw [e] <;> rfl
theorem posF.inf : S.write (.infinity false) = 2139095040 := by decide +kernel
theorem sum_pos (m n : Nat) (p q : Int) : ∃ z k, (Ieee.Datum.number false m p).sum (.number false n q) = some (.number false z k) := by
  have e3 : ∀ (x y : Nat), ∃ z : Nat, Ieee.signed false x y = (z : Int) := fun x y => ⟨x <<< y, rfl⟩
  unfold Ieee.Datum.sum
  obtain ⟨a, ha⟩ := e3 m (p - min p q).toNat
  obtain ⟨b, hb⟩ := e3 n (q - min p q).toNat
  dsimp only
  rw [ha, hb]
  have e4 : (if (a : Int) + (b : Int) = 0 then false && false else decide ((a : Int) + (b : Int) < 0)) = false := by
    split
    · rfl
    · exact decide_eq_false (by omega)
  rw [e4]
  exact ⟨_, _, rfl⟩
theorem posF.wr (z : Nat) (k : Int) : posF (S.write (.number false z k)) := near_pos z k
theorem posF.infP : posF (S.write (.infinity false)) := by
  unfold posF
  rw [posF.inf]
  omega
theorem posF.add {a b : Nat} (ha : posF a) (hb : posF b) : posF (addF a b) := by
  have e : addF a b = (((S.read a).sum (S.read b)).map S.write).getD (qnan .f32) := rfl
  rw [e]
  clear e
  rcases ha.read with ⟨m, p, e⟩ | e <;> rcases hb.read with ⟨n, q, e2⟩ | e2 <;> rw [e, e2]
  · obtain ⟨z, k, h⟩ := sum_pos m n p q
    rw [h, Option.map_some, Option.getD_some]
    exact posF.wr z k
  · rw [show (Ieee.Datum.number false m p).sum (.infinity false) = some (.infinity false) from rfl, Option.map_some, Option.getD_some]
    exact posF.infP
  · rw [show (Ieee.Datum.infinity false).sum (.number false n q) = some (.infinity false) from rfl, Option.map_some, Option.getD_some]
    exact posF.infP
  · rw [show (Ieee.Datum.infinity false).sum (.infinity false) = some (.infinity false) from rfl, Option.map_some, Option.getD_some]
    exact posF.infP
theorem sq_pos {d : Nat} (h : (S.read d).isNaN = false) : posF (mulF d d) := by
  have e : mulF d d = (((S.read d).product (S.read d)).map S.write).getD (qnan .f32) := rfl
  rw [e]
  clear e
  cases e : S.read d with
  | nan s t => rw [e] at h; cases h
  | infinity s =>
    rw [show (Ieee.Datum.infinity s).product (.infinity s) = some (.infinity (s ^^ s)) from rfl, Option.map_some, Option.getD_some, Bool.xor_self]
    exact posF.infP
  | number s m p =>
    rw [show (Ieee.Datum.number s m p).product (.number s m p) = some (.number (s ^^ s) (m * m) (p + p)) from rfl, Option.map_some, Option.getD_some, Bool.xor_self]
    exact posF.wr _ _
theorem posF.zero : posF 0 := Nat.zero_le _
theorem sqs_pos {f : Nat → Nat} {n : Nat} (h : ∀ i, i < n → (S.read (f i)).isNaN = false) : ∀ k, k ≤ n → posF (sqsL f k)
  | 0, _ => posF.zero
  | k + 1, hk => (sqs_pos h k (by omega)).add (sq_pos (h k (by omega)))
/-- Lists of ways; misses. -/
def waysOk (css : List (List Nat)) : Bool := decide (1 ≤ css.length) && decide (css.length ≤ 8) && css.all fun c => twoOk c (headL css)
def msMean (xs gs : List Nat) : Nat := divF (sqsL (fun i => subF (xs.getD i 0) (gs.getD i 0)) xs.length) (fI xs.length)
def msQ (xs gs : List Nat) : Nat × Bool := if twoOk xs gs then numB (msMean xs gs) else (0, false)
def rmsQ (xs gs : List Nat) : Nat × Bool := if (msQ xs gs).2 then numB (rootF (msQ xs gs).1) else (0, false)

theorem i_areWays1 (b : Nat) (l : Value) (css : List (List Nat)) (w : World) (hb : b < w.heap.size) (hm : w.cell? ⟨b, 0, none⟩ = some l) (hv : SS w l css) (h0 : 1 ≤ css.length) :
    AsksS 135 (.pointer (some ⟨b, 0, none⟩)) w (fun cs => !twoOk cs (headL css)) := by
  intro v cs w' hB hs
  have h1 := (hB.cell (p := ⟨b, 0, none⟩) hb).trans hm
  obtain ⟨ao, c, rfl, hc1, hc2, hget⟩ := (hv.keep hB).get rfl
  obtain ⟨b0, off, u, rfl, hb0, hc0, hs0⟩ := hget 0 (by omega)
  have hs0 : SB w' u (headL css) := hs0
  have HS := Lib.hid hs
  have HS0 := Lib.hid hs0
  rw [Nat.add_zero] at hc0
  clear hm hget hv hs hs0
  go_enter Try.func135, Try.ntmps135
  go_wp2_with (go_at_call 89; refine (i_areTwo _ _ cs (headL css) _ HS.out.sl HS0.out.sl).mono ?_; rintro e w1 ⟨rfl, n, rfl⟩)
  go_ret
  exact ⟨rfl, _, rfl⟩
theorem i_areWays (v : Value) (css : List (List Nat)) (w : World) (hv : SS w v css) :
    Calls Try.prog 106 #[v] w fun e w' => e = .returned (.bool (waysOk css)) ∧ Below w.heap.size w w' := by
  have HV := Lib.hid hv
  obtain ⟨ao, c, rfl, hc1, hc2⟩ := hv.slice
  clear hv
  by_cases h1 : 1 ≤ css.length
  · by_cases h2 : css.length ≤ 8
    · have HL := Lib.hid (show waysOk css = css.all fun c => twoOk c (headL css) by simp [waysOk, h1, h2])
      go_enter Try.func106, Try.ntmps106
      go_wp2_with (go_at_call 58; refine (f_ContainsFuncS 135 _ (fun cs => !twoOk cs (headL css)) (fun _ _ => by kernel_rfl) _ css _ (HV.out.keep (by (repeat (first | with_reducible exact Below.refl _ _ | with_reducible assumption | with_reducible refine below_drewN ?_ _ | with_reducible refine Below.drew ?_ | with_reducible refine Below.alloc ?_ (by first | omega | (simp; omega) | (simp; done) | (simp at *; omega)) _ | with_reducible refine Below.setCell ?_ (by first | omega | (simp; omega) | (simp; done) | (simp at *; omega)) _ | refine Below.trans ?_ (Below.mono (by with_reducible assumption) (by first | omega | (simp; omega) | (simp; done) | (simp at *; omega))))))) (i_areWays1 _ (.slice ao css.length c) css _ (by simp; try omega) (by go_simp) (HV.out.keep (by (repeat (first | with_reducible exact Below.refl _ _ | with_reducible assumption | with_reducible refine below_drewN ?_ _ | with_reducible refine Below.drew ?_ | with_reducible refine Below.alloc ?_ (by first | omega | (simp; omega) | (simp; done) | (simp at *; omega)) _ | with_reducible refine Below.setCell ?_ (by first | omega | (simp; omega) | (simp; done) | (simp at *; omega)) _ | refine Below.trans ?_ (Below.mono (by with_reducible assumption) (by first | omega | (simp; omega) | (simp; done) | (simp at *; omega))))))) h1)).mono ?_; rintro e w1 ⟨rfl, n, rfl⟩)
      all_goals
        go_ret
        refine ⟨ret_bool ?_, by (repeat (first | with_reducible exact Below.refl _ _ | with_reducible assumption | with_reducible refine below_drewN ?_ _ | with_reducible refine Below.drew ?_ | with_reducible refine Below.alloc ?_ (by first | omega | (simp; omega) | (simp; done) | (simp at *; omega)) _ | with_reducible refine Below.setCell ?_ (by first | omega | (simp; omega) | (simp; done) | (simp at *; omega)) _ | refine Below.trans ?_ (Below.mono (by with_reducible assumption) (by first | omega | (simp; omega) | (simp; done) | (simp at *; omega)))))⟩
        rw [HL.out, ← any_notS]
    · have HL := Lib.hid (show waysOk css = false by simp [waysOk, h2])
      go_enter Try.func106, Try.ntmps106
      go_wp2_with fail
      go_ret
      exact ⟨ret_bool (by rw [HL.out]), by (repeat (first | with_reducible exact Below.refl _ _ | with_reducible assumption | with_reducible refine below_drewN ?_ _ | with_reducible refine Below.drew ?_ | with_reducible refine Below.alloc ?_ (by first | omega | (simp; omega) | (simp; done) | (simp at *; omega)) _ | with_reducible refine Below.setCell ?_ (by first | omega | (simp; omega) | (simp; done) | (simp at *; omega)) _ | refine Below.trans ?_ (Below.mono (by with_reducible assumption) (by first | omega | (simp; omega) | (simp; done) | (simp at *; omega)))))⟩
  · have HL := Lib.hid (show waysOk css = false by simp [waysOk, h1])
    go_enter Try.func106, Try.ntmps106
    go_wp2_with fail
    go_ret
    exact ⟨ret_bool (by rw [HL.out]), by (repeat (first | with_reducible exact Below.refl _ _ | with_reducible assumption | with_reducible refine below_drewN ?_ _ | with_reducible refine Below.drew ?_ | with_reducible refine Below.alloc ?_ (by first | omega | (simp; omega) | (simp; done) | (simp at *; omega)) _ | with_reducible refine Below.setCell ?_ (by first | omega | (simp; omega) | (simp; done) | (simp at *; omega)) _ | refine Below.trans ?_ (Below.mono (by with_reducible assumption) (by first | omega | (simp; omega) | (simp; done) | (simp at *; omega)))))⟩

theorem i_RootMiss1 (d x g q : Nat) (hd : cn .f32 d = d) (hq : mulF d d = q) (hn : (S.read q).isNaN = false) (w : World) :
    Calls Try.prog 102 #[.float .f32 d, .float .f32 x, .float .f32 g] w fun e w' => e = .returned (.float .f32 q) ∧ Dr w w' := by
  have RUN := fun t w => run_arx (P := Try.prog) .mul d d q (by rw [hd]; exact hq) hn t w
  go_enter Try.func102, Try.ntmps102
  go_wp2_with fail
  go_ret
  exact ⟨rfl, Dr.refl _⟩

theorem i_meanMiss (u v : Value) (cs ds : List Nat) (w : World) (hu : SB w u cs) (hv : SB w v ds) :
    Calls Try.prog 98 #[u, v, .func (.func 102) #[] #[]] w fun e w' => NB e (msQ cs ds) ∧ Dr w w' := by
  have HU := Lib.hid hu
  have HV := Lib.hid hv
  cases hok : twoOk cs ds
  · have HOK := Lib.hid hok
    clear hok hu hv
    go_enter Try.func98, Try.ntmps98
    go_wp2_with fail
    refine (i_areTwo _ _ cs ds _ HU.out.sl HV.out.sl).mono ?_; rintro e w1 ⟨rfl, n1, rfl⟩
    rw [HOK.out]
    go_wp2_with fail
    go_ret2
    exact ⟨⟨_, _, rfl, by decide, by rw [msQ, HOK.out]; exact cn0, by rw [msQ, HOK.out]; rfl⟩, Dr.mk _ _⟩
  · have HOK := Lib.hid hok
    obtain ⟨hl, hn96, hn1⟩ := two_len hok
    have hfin : allFin cs = true ∧ allFin ds = true := by
      simp only [twoOk, series, Bool.and_eq_true] at hok
      exact ⟨hok.1.1.2, hok.1.2.2⟩
    obtain ⟨ao, c, rfl, -, -, hg1⟩ := hu.get rfl
    obtain ⟨bo, d, rfl, -, -, hg2⟩ := hv.get hl.symm
    have HG1 := Lib.hid hg1
    have HG2 := Lib.hid hg2
    have HF := Lib.hid hfin
    have HLN := Lib.hid hl
    clear hok hu hv hg1 hg2 hfin hl
    have HPS := Lib.hid (sqs_pos (f := fun i => subF (cs.getD i 0) (ds.getD i 0)) (n := cs.length) (fun i _ => subF_notNaN (fin_getD HF.out.1 i) (fin_getD HF.out.2 i)))
    go_enter Try.func98, Try.ntmps98
    go_wp2_with fail
    refine (i_areTwo _ _ cs ds _ HU.out.sl HV.out.sl).mono ?_; rintro e w1 ⟨rfl, n1, rfl⟩
    rw [HOK.out]
    go_wp2_with fail
    go_loopw [8, 17] (fun s i wr => ∃ k : Nat, k ≤ cs.length ∧ i = .int .i64 (k : Int) ∧ s = .float .f32 (sqsL (fun i => subF (cs.getD i 0) (ds.getD i 0)) k) ∧ ∃ n, wr = w.drewN n) (fun _ i _ => cs.length - (intOf i).toNat)
    case atStart => exact ⟨0, Nat.zero_le _, rfl, rfl, _, rfl⟩
    case round =>
      obtain ⟨k, hk, rfl, rfl, dn, rfl⟩ := hrel
      by_cases hlt : k < cs.length
      · obtain ⟨b1, o1, x, rfl, hbl1, hc1, hx, hcx⟩ := HG1.out k hlt
        obtain ⟨b2, o2, y, rfl, hbl2, hc2, hy, hcy⟩ := HG2.out k hlt
        have fx := fin_getD HF.out.1 k
        have fy := fin_getD HF.out.2 k
        obtain ⟨rfl, -⟩ := raw_of hcx fx
        obtain ⟨rfl, -⟩ := raw_of hcy fy
        have hD := subF_notNaN fx fy
        have hq := sq_pos hD
        have hs := HPS.out k (by omega)
        have hs1 := HPS.out (k + 1) (by omega)
        have RUN1 := fun t w => run_arx (P := Try.prog) .sub (cs.getD k 0) (ds.getD k 0) (subF (cs.getD k 0) (ds.getD k 0)) (by rw [cn_of_not (k := .f32) (fin_notNaN fx), cn_of_not (k := .f32) (fin_notNaN fy)]; rfl) hD t w
        have HC := Lib.hid (fun w => i_RootMiss1 (subF (cs.getD k 0) (ds.getD k 0)) (cs.getD k 0) (ds.getD k 0) _ (cn_of_not (k := .f32) hD) rfl hq.notNaN w)
        have RUN2 := fun t w => run_arx (P := Try.prog) .add (sqsL (fun i => subF (cs.getD i 0) (ds.getD i 0)) k) (mulF (subF (cs.getD k 0) (ds.getD k 0)) (subF (cs.getD k 0) (ds.getD k 0))) (sqsL (fun i => subF (cs.getD i 0) (ds.getD i 0)) (k + 1)) (by rw [cn_of_not (k := .f32) hs.notNaN, cn_of_not (k := .f32) hq.notNaN]; rfl) hs1.notNaN t w
        have HE := fun (args : Array Value) (w : World) => (show (callFunc 102 args).run Try.prog w = .ok (.enter 102 args) w by kernel_rfl)
        generalize hS1 : sqsL (fun i => subF (cs.getD i 0) (ds.getD i 0)) (k + 1) = s1 at *
        have HS1 := Lib.hid hS1
        clear hS1
        generalize sqsL (fun i => subF (cs.getD i 0) (ds.getD i 0)) k = s0 at *
        generalize mulF (subF (cs.getD k 0) (ds.getD k 0)) (subF (cs.getD k 0) (ds.getD k 0)) = qq at *
        generalize subF (cs.getD k 0) (ds.getD k 0) = dd at *
        generalize cs.getD k 0 = xx at *
        generalize ds.getD k 0 = yy at *
        clear hcx hcy fx fy hD hq hs hs1
        go_wp2_with fail
        go_quiet ((go_at_call 102; first | exact quiet_dr (HC.out _) | exact quiet_dr2 (HC.out _)))
        go_wp2_with fail
        exact ⟨⟨k + 1, by omega, by go_num, by rw [HS1.out], _, rfl⟩, by simp [intOf]; omega⟩
      · obtain rfl : k = cs.length := by omega
        have hs := HPS.out cs.length (Nat.le_refl _)
        have HSN := Lib.hid (cn_of_not (k := .f32) hs.notNaN)
        clear hs
        have HMQ := Lib.hid (show msQ cs ds = numB (divF (sqsL (fun i => subF (cs.getD i 0) (ds.getD i 0)) cs.length) (fI cs.length)) by rw [msQ, HOK.out]; rfl)
        generalize sqsL (fun i => subF (cs.getD i 0) (ds.getD i 0)) cs.length = s0 at *
        go_wp2_with (first | (refine wpList_ar .f32 _ _ rfl rfl rfl ?_; intro r1 n1 hr1 hlt1))
        refine (i_ifFinite r1 hlt1 _).mono ?_; rintro e w5 ⟨⟨r2, b2, rfl, hr2, hr3, hb2⟩, n5, rfl⟩
        rw [HSN.out, show cn .f32 (floatOfInt .f32 (cs.length : Int)) = fI cs.length from cn_fI _] at hr1
        rw [hr1] at hr3 hb2
        go_wp2_with fail
        go_ret2
        exact ⟨⟨_, _, rfl, hr2, by rw [HMQ.out]; exact hr3, by rw [HMQ.out]; first | exact hb2 | rfl⟩, Dr.mk _ _⟩

theorem i_RootMiss (u v : Value) (cs ds : List Nat) (w : World) (hu : SB w u cs) (hv : SB w v ds) :
    Calls Try.prog 42 #[u, v] w fun e w' => NB e (rmsQ cs ds) ∧ Dr w w' := by
  have HU := Lib.hid hu
  have HV := Lib.hid hv
  clear hu hv
  cases hok : (msQ cs ds).2
  all_goals
    have HOK := Lib.hid hok
    clear hok
    go_enter Try.func42, Try.ntmps42
    go_wp2_with fail
    refine (i_meanMiss _ _ cs ds _ HU.out HV.out).mono ?_; rintro e w1 ⟨⟨r, b, rfl, hr, hcr, hb⟩, n1, rfl⟩
    rw [HOK.out] at hb
    subst hb
    go_wp2_with fail
  · go_ret2
    exact ⟨⟨_, _, rfl, by decide, by rw [rmsQ, HOK.out]; exact cn0, by rw [rmsQ, HOK.out]; rfl⟩, Dr.mk _ _⟩
  · refine (i_RootNumber r _).mono ?_; rintro e w2 ⟨⟨r2, rfl, hr2, hcr2⟩, n2, rfl⟩
    go_wp2_with fail
    refine (i_ifFinite r2 hr2 _).mono ?_; rintro e w3 ⟨⟨r3, b3, rfl, hr3, hcr3, hb3⟩, n3, rfl⟩
    rw [hcr2, hcr] at hcr3 hb3
    go_wp2_with fail
    go_ret2
    exact ⟨⟨_, _, rfl, hr3, by rw [rmsQ, HOK.out]; exact hcr3, by rw [rmsQ, HOK.out]; first | exact hb3 | rfl⟩, by first | exact Dr.mk _ _ | exact ⟨_, rfl⟩⟩

end Go.Proofs.Ytkkomajokdlkeaa

namespace Go.Proofs.Ytkkomajokdlkeaa
set_option linter.unusedSimpArgs false
set_option linter.unusedVariables false
set_option maxRecDepth 100000
set_option maxHeartbeats 4000000
set_option linter.unusedSimpArgs false
set_option linter.unusedVariables false
open Go.RowKit
attribute [local go_sem] run_store_float run_store_complex alloc_drewN setCell_drewN

theorem i_BlendOf1 (u : Value) (wo : Option Addr) (wl wc : Nat) (xs ws : List Nat) (pb : Nat) (W : World) (hc : W.cell? ⟨pb, 0, none⟩ = some (.slice wo wl wc)) (hw : SB W (.slice wo wl wc) ws) (hu : SB W u xs) (hl : ws.length = xs.length) :
    Calls Try.prog 113 #[u, .pointer (some ⟨pb, 0, none⟩)] W fun e w' => (∃ r, e = .returned (.float .f32 r) ∧ r < 4294967296 ∧ cn .f32 r = dotL ws xs ws.length) ∧ Below W.heap.size W w' := by
  have HW := Lib.hid hw
  have HU := Lib.hid hu
  clear hw hu
  go_enter Try.func113, Try.ntmps113
  go_wp2_with fail
  refine (i_dot _ _ ws xs _ HW.out HU.out hl).mono ?_; rintro z w1 ⟨⟨r, rfl, hr, hcr⟩, hd⟩
  have HC := Lib.hid hcr
  have HD := Lib.hid (show Below W.heap.size W w1 by obtain ⟨d, rfl⟩ := hd; exact below_drewN (Below.refl _ _) _)
  clear hcr hd
  go_wp2_with fail
  go_ret
  exact ⟨⟨r, rfl, hr, HC.out⟩, HD.out⟩

end Go.Proofs.Ytkkomajokdlkeaa

namespace Go.Proofs.Ytkkomajokdlkeaa
set_option linter.unusedSimpArgs false
set_option linter.unusedVariables false
set_option maxRecDepth 100000
set_option maxHeartbeats 4000000
set_option linter.unusedSimpArgs false
set_option linter.unusedVariables false
open Go.RowKit
attribute [local go_sem] run_store_float run_store_complex alloc_drewN setCell_drewN
theorem ways_len {css : List (List Nat)} (h : waysOk css = true) : 1 ≤ css.length ∧ css.length ≤ 8 ∧ 1 ≤ (headL css).length ∧ (headL css).length ≤ 96 ∧ ∀ c ∈ css, c.length = (headL css).length := by
  simp only [waysOk, Bool.and_eq_true, decide_eq_true_eq, List.all_eq_true] at h
  obtain ⟨⟨h1, h2⟩, h3⟩ := h
  have h4 : headL css ∈ css := by
    cases css with
    | nil => simp at h1
    | cons a l => simp [headL]
  have h5 := two_len (h3 _ h4)
  exact ⟨h1, h2, h5.2.2, h5.2.1, fun c hc => (two_len (h3 c hc)).1⟩
theorem numsAt_length (css : List (List Nat)) (i : Nat) : (numsAt css i).length = css.length := by simp [numsAt]

theorem i_BlendOf (v y : Value) (css : List (List Nat)) (ws : List Nat) (w : World) (hv : SS w v css) (hy : SB w y ws) (hok : waysOk css = true) (hl : ws.length = css.length) (hf : allFin ws = true) :
    Calls Try.prog 50 #[v, y] w fun e w' => LB 33 w.heap.size w' e (given (blL (fun i => dotL ws (numsAt css i) ws.length) (headL css).length)) ∧ Below w.heap.size w w' := by
  have HV := Lib.hid hv
  have HK := Lib.hid hok
  have HF := Lib.hid hf
  obtain ⟨l1, l2, l3, l4, l5⟩ := ways_len hok
  have HN := Lib.hid l5
  obtain ⟨ao, c, rfl, -, -⟩ := hv.slice
  obtain ⟨bo, d, rfl, -⟩ := hy.sl.slice
  rw [hl] at hy ⊢
  have HY := Lib.hid hy
  have HL := Lib.hid hl
  clear hv hy hok hf l5 hl
  go_enter Try.func50, Try.ntmps50
  go_wp2_with fail
  refine (i_areWays _ css _ (HV.out.keep (by (repeat (first | with_reducible exact Below.refl _ _ | with_reducible assumption | with_reducible refine below_drewN ?_ _ | with_reducible refine Below.drew ?_ | with_reducible refine Below.alloc ?_ (by first | omega | (simp; omega) | (simp; done) | (simp at *; omega)) _ | with_reducible refine Below.setCell ?_ (by first | omega | (simp; omega) | (simp; done) | (simp at *; omega)) _ | refine Below.trans ?_ (Below.mono (by with_reducible assumption) (by first | omega | (simp; omega) | (simp; done) | (simp at *; omega)))))))).mono ?_; rintro e w1 ⟨rfl, hb⟩
  rw [HK.out]
  have hcell := hb.cell (p := ⟨w.heap.size, 0, none⟩) (by simp)
  rw [show (w.alloc (Obj.cells #[.slice bo css.length d] 26)).cell? ⟨w.heap.size, 0, none⟩ = some (.slice bo css.length d) by simp] at hcell
  have HB1 := Lib.hid (show Below w.heap.size w w1 from ((Below.refl _ _).alloc (Nat.le_refl _) _).trans (hb.mono (by simp)))
  have hz1 : w.heap.size < w1.heap.size := by have := hb.size; simp at this; omega
  clear hb
  go_wp2_with fail
  refine (i_areFinite _ ws _ (SL.keep HY.out.sl HB1.out)).mono ?_; rintro e w2 ⟨rfl, n2, rfl⟩
  rw [HF.out]
  go_wp2_with fail
  refine (i_blendedB _ css (headL css).length w.heap.size _ ((HV.out.keep HB1.out).drewN n2) l1 l2 HN.out l4 (G := fun i => dotL ws (numsAt css i) css.length) ?_).mono ?_
  · intro i hi W u hB hu
    have hB' : Below w1.heap.size w1 W := (below_drewN (Below.refl _ _) n2).trans (hB.mono (by simp))
    have h := i_BlendOf1 u bo css.length d (numsAt css i) ws w.heap.size W ((hB'.cell (p := ⟨w.heap.size, 0, none⟩) hz1).trans hcell) ((HY.out.keep HB1.out).keep hB') hu (by rw [numsAt_length, HL.out])
    rw [HL.out] at h
    exact h
  · rintro z w5 ⟨⟨u, rfl, ho⟩, hb⟩
    have HO := Lib.hid ho
    have HB5 := Lib.hid ((below_drewN HB1.out n2).trans (hb.mono (by simp; omega)))
    clear ho hb
    go_wp2_with fail
    refine (i_ifAll u _ _ HO.out.sb.sl).mono ?_; rintro z w6 ⟨⟨u', b', rfl, hu', hb'⟩, hd⟩
    have HD := Lib.hid hd
    have HU6 := Lib.hid hu'
    have HB6 := Lib.hid hb'
    clear hd hu' hb'
    go_wp2_with fail
    go_ret2
    refine ⟨?_, HB5.out.trans ((HD.out.below _).mono HB5.out.size)⟩
    obtain ⟨d6, rfl⟩ := HD.out
    exact LB.given ((HO.out.down (by simp; omega)).drewN _) HU6.out HB6.out rfl

end Go.Proofs.Ytkkomajokdlkeaa

namespace Go.Proofs.Ytkkomajokdlkeaa
set_option linter.unusedSimpArgs false
set_option linter.unusedVariables false
set_option maxRecDepth 100000
set_option maxHeartbeats 4000000
set_option linter.unusedSimpArgs false
set_option linter.unusedVariables false
open Go.RowKit
attribute [local go_sem] run_store_float run_store_complex alloc_drewN setCell_drewN
/-- The middle of sorted numbers. -/
def medV (o : List Nat) : Nat := if o.length % 2 = 1 then o.getD (o.length / 2) 0 else divF (addF (o.getD (o.length / 2 - 1) 0) (o.getD (o.length / 2) 0)) 1073741824
structure MedOk (o : List Nat) : Prop where
  f : allFin o = true
  l1 : 1 ≤ o.length
  l2 : o.length ≤ 96
  s : o.length % 2 = 0 → (S.read (addF (o.getD (o.length / 2 - 1) 0) (o.getD (o.length / 2) 0))).isNaN = false
  q : o.length % 2 = 0 → (S.read (medV o)).isNaN = false
theorem fin_getD194 {cs : List Nat} (h : allFin cs = true) (i : Nat) : fin (cs.getD i 0) = true := by
  rw [List.getD_eq_getElem?_getD]
  cases e : cs[i]? with
  | none => rfl
  | some c => exact List.all_eq_true.1 h c (List.mem_of_getElem? e)

theorem i_medianG (v : Value) (o : List Nat) (w : World) (hm : MedOk o) (hs : Calls Try.prog 137 #[v] w fun e w' => (∃ u, e = .returned u ∧ OW 33 w.heap.size w' u o) ∧ Below w.heap.size w w') :
    Calls Try.prog 114 #[v] w fun e w' => (∃ r, e = .returned (.float .f32 r) ∧ r < 4294967296 ∧ cn .f32 r = medV o) ∧ Below w.heap.size w w' := by
  have HS := Lib.hid hs
  have HF := Lib.hid hm.f
  have l1 := hm.l1
  have l2 := hm.l2
  have HSN := Lib.hid hm.s
  have HQN := Lib.hid hm.q
  clear hs hm
  go_enter Try.func114, Try.ntmps114
  go_wp2_with fail
  refine HS.out.mono ?_; rintro z w1 ⟨⟨u, rfl, ho⟩, hb⟩
  obtain ⟨hg, hd⟩ := ho.raw HF.out
  have HB := Lib.hid hb
  have HSB := Lib.hid ho.sb
  obtain ⟨n, hn⟩ : ∃ n, n = o.length := ⟨_, rfl⟩
  have HN := Lib.hid hn
  obtain ⟨hm, hhm⟩ : ∃ q : Nat, q = n / 2 := ⟨_, rfl⟩
  have HHM := Lib.hid hhm
  have hq1 : hm < o.length := by omega
  obtain ⟨ao, c, rfl, -, -, hget⟩ := HSB.out.get rfl
  obtain ⟨b1, o1, x, rfl, hbl1, hc1, hx, hcx⟩ := hget hm hq1
  have fx := fin_getD194 HF.out hm
  obtain ⟨rfl, -⟩ := raw_of hcx fx
  have q2 : ((n : Int)).tdiv 2 = (hm : Int) := by rw [Int.tdiv_eq_ediv_of_nonneg (by omega)]; omega
  have q3 : (hm : Int) < (n : Int) := by omega
  rw [← hn]
  by_cases hp : n % 2 = 1
  · have p1 : ((n : Int)).tmod 2 = 1 := by rw [Int.tmod_eq_emod_of_nonneg (by omega)]; omega
    have HV := Lib.hid (show medV o = o.getD hm 0 by rw [medV, ← HN.out, if_pos hp, HHM.out])
    have HCN := Lib.hid (cn_of_not (k := .f32) (fin_notNaN fx))
    clear ho hg hd hb hn hhm hp hcx hget fx
    generalize o.getD hm 0 = x at *
    go_wp2_with fail
    go_ret
    exact ⟨⟨x, rfl, hx, by rw [HV.out]; exact HCN.out⟩, HB.out⟩
  · have p1 : ((n : Int)).tmod 2 = 0 := by rw [Int.tmod_eq_emod_of_nonneg (by omega)]; omega
    have hp0 : n % 2 = 0 := by omega
    have hm1 : 1 ≤ hm := by omega
    obtain ⟨b2, o2, y, e2, hbl2, hc2, hy, hcy⟩ := hget (hm - 1) (by omega)
    obtain ⟨rfl, rfl⟩ : b2 = b1 ∧ o2 = o1 := by simp only [Option.some.injEq, Addr.mk.injEq] at e2; exact ⟨e2.1.symm, e2.2.1.symm⟩
    have fy := fin_getD194 HF.out (hm - 1)
    obtain ⟨rfl, -⟩ := raw_of hcy fy
    have hsn := HSN.out (by rw [← HN.out]; exact hp0)
    have hqn := HQN.out (by rw [← HN.out]; exact hp0)
    have HV := Lib.hid (show medV o = divF (addF (o.getD (hm - 1) 0) (o.getD hm 0)) 1073741824 by rw [medV, ← HN.out, if_neg hp, HHM.out])
    rw [← HN.out, ← HHM.out] at hsn
    rw [HV.out] at hqn
    have RA := fun t w => run_arxT (P := Try.prog) .add (o.getD (hm - 1) 0) (o.getD hm 0) (addF (o.getD (hm - 1) 0) (o.getD hm 0)) (by rw [cn_of_not (k := .f32) (fin_notNaN fx), cn_of_not (k := .f32) (fin_notNaN fy)]; rfl) hsn t w
    have RD := fun t w => run_arxT (P := Try.prog) .quo (addF (o.getD (hm - 1) 0) (o.getD hm 0)) 1073741824 (divF (addF (o.getD (hm - 1) 0) (o.getD hm 0)) 1073741824) (by rw [cn_of_not (k := .f32) hsn, show cn .f32 1073741824 = 1073741824 by decide +kernel]; rfl) hqn t w
    have HCQ := Lib.hid (cn_of_not (k := .f32) hqn)
    have HLT := Lib.hid (show divF (addF (o.getD (hm - 1) 0) (o.getD hm 0)) 1073741824 < 4294967296 from ar_lt .quo _ _)
    have q4 : IntKind.i64.wrap ((hm : Int) - 1) = (hm : Int) - 1 := by rw [IntKind.wrap_i64]; omega
    have q10 : IntKind.i64.wrap (hm : Int) = (hm : Int) := by rw [IntKind.wrap_i64]; omega
    have q5 : 0 ≤ (hm : Int) - 1 := by omega
    have q6 : (hm : Int) - 1 < (n : Int) := by omega
    have q7 : ((hm : Int) - 1).toNat = hm - 1 := by omega
    have q8 : 0 ≤ (hm : Int) := by omega
    have q9 : ((hm : Int)).toNat = hm := by omega
    obtain ⟨hi, hhi⟩ : ∃ i : Int, i = (hm : Int) := ⟨_, rfl⟩
    have hc1' : w1.cell? ⟨b2, o2 + hm, none⟩ = some (.float .f32 (o.getD hm 0)) := hc1
    obtain ⟨hk, hhk⟩ : ∃ k, k = hm - 1 := ⟨_, rfl⟩
    rw [← hhi] at q2 q3 q4 q5 q6 q7 q8 q9 q10
    rw [← hhk] at q7 hc2 HV HCQ HLT
    rw [← hhk] at RA RD
    clear ho hg hd hb hn hhm hp hcx hget fx fy hcy hsn hqn hp0 hm1 hq1 hhi hhk e2 HHM HN HSN HQN hc1 l1 l2
    generalize divF (addF (o.getD hk 0) (o.getD hm 0)) 1073741824 = qq at *
    generalize addF (o.getD hk 0) (o.getD hm 0) = ss at *
    generalize o.getD hm 0 = x at *
    generalize o.getD hk 0 = y at *
    go_wp2_with fail
    go_region
    go_wp2_with fail
    go_ret
    exact ⟨⟨qq, rfl, HLT.out, by rw [HV.out]; exact HCQ.out⟩, HB.out.drew⟩

theorem i_MiddleBlend (v : Value) (css : List (List Nat)) (w : World) (hv : SS w v css) (hok : waysOk css = true) (hm : ∀ i, i < (headL css).length → allFin (numsAt css i) = true ∧ MedOk (sort19 (numsAt css i))) :
    Calls Try.prog 51 #[v] w fun e w' => LB 33 w.heap.size w' e (given (blL (fun i => medV (sort19 (numsAt css i))) (headL css).length)) ∧ Below w.heap.size w w' := by
  have HV := Lib.hid hv
  have HK := Lib.hid hok
  have HM := Lib.hid hm
  obtain ⟨l1, l2, l3, l4, l5⟩ := ways_len hok
  have HN := Lib.hid l5
  clear hv hok l5 hm
  go_enter Try.func51, Try.ntmps51
  go_wp2_with fail
  refine (i_areWays _ css _ HV.out).mono ?_; rintro e w1 ⟨rfl, hb⟩
  rw [HK.out]
  have HB1 := Lib.hid hb
  clear hb
  go_wp2_with fail
  refine (i_blendedM _ css (headL css).length _ (HV.out.keep HB1.out) l1 l2 HN.out l4 (G := fun i => medV (sort19 (numsAt css i))) ?_).mono ?_
  · intro i hi W u hB hu
    obtain ⟨m1, m2⟩ := HM.out i hi
    exact i_medianG u _ W m2 (i_sorted19 u (numsAt css i) W hu m1 (by rw [numsAt_length]; omega) (by rw [numsAt_length]; omega))
  · rintro z w5 ⟨⟨u, rfl, ho⟩, hb⟩
    have HO := Lib.hid ho
    have HB5 := Lib.hid (HB1.out.trans (hb.mono HB1.out.size))
    have hz := HB1.out.size
    clear ho hb
    go_wp2_with fail
    refine (i_ifAll u _ _ HO.out.sb.sl).mono ?_; rintro z w6 ⟨⟨u', b', rfl, hu', hb'⟩, hd⟩
    have HD := Lib.hid hd
    have HU6 := Lib.hid hu'
    have HB6 := Lib.hid hb'
    clear hd hu' hb'
    go_wp2_with fail
    go_ret2
    refine ⟨?_, HB5.out.trans ((HD.out.below _).mono HB5.out.size)⟩
    obtain ⟨d6, rfl⟩ := HD.out
    exact LB.given ((HO.out.down hz).drewN _) HU6.out HB6.out rfl

end Go.Proofs.Ytkkomajokdlkeaa
