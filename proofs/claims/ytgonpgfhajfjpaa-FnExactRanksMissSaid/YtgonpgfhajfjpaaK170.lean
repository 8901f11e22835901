/- Contracts: misses by their roots, by the program. -/
import Derived.Test.YtgonpgfhajfjpaaK23
import Derived.Test.YtgonpgfhajfjpaaK163
import Derived.Test.YtgonpgfhajfjpaaK16
namespace Go.Proofs.Ytgonpgfhajfjpaa
set_option linter.unusedSimpArgs false
set_option linter.unusedVariables false
set_option maxRecDepth 100000
set_option maxHeartbeats 4000000
open Go.RowKit
attribute [local go_sem] run_store_float run_store_complex alloc_drewN setCell_drewN
/-- Numbers without a sign, or infinite. -/
def posF (c : Nat) : Prop := c ≤ 2139095040
theorem near_pos (m : Nat) (p : Int) : posF (S.nearest false m p) := by
  unfold posF Ieee.Format.nearest
  by_cases h : m = 0
  · rw [if_pos h]; unfold Ieee.Format.word; simp only [Bool.false_eq_true, if_false]; omega
  · rw [if_neg h]
    show S.word false (min _ S.infRung) ≤ _
    unfold Ieee.Format.word
    rw [s_inf]
    simp only [Bool.false_eq_true, if_false]
    exact Nat.min_le_right _ _
theorem posF.read {c : Nat} (h : posF c) : (∃ m p, S.read c = .number false m p) ∨ S.read c = .infinity false := by
  unfold posF at h
  rw [read_single]
  have h1 : c % 2147483648 = c := by omega
  have h2 : (c / 2147483648 % 2 == 1) = false := by rw [show c / 2147483648 = 0 by omega]; rfl
  rw [h1, h2]
  split
  · exact .inl ⟨_, _, rfl⟩
  · split
    · exact .inl ⟨_, _, rfl⟩
    · rw [if_pos (by omega)]; exact .inr rfl
theorem posF.notNaN {c : Nat} (h : posF c) : (S.read c).isNaN = false := by
  rcases h.read with ⟨m, p, e⟩ | e <;> rw [e] <;> rfl
theorem posF.inf : S.write (.infinity false) = 2139095040 := by decide +kernel
theorem sum_pos (m n : Nat) (p q : Int) : ∃ z k, (Ieee.Datum.number false m p).sum (.number false n q) = some (.number false z k) := by
  have e3 : ∀ (x y : Nat), ∃ z : Nat, Ieee.signed false x y = (z : Int) := fun x y => ⟨x <<< y, rfl⟩
  unfold Ieee.Datum.sum
  obtain ⟨a, ha⟩ := e3 m (p - min p q).toNat
  obtain ⟨b, hb⟩ := e3 n (q - min p q).toNat
  dsimp only
  rw [ha, hb]
  have e4 : (if (a : Int) + (b : Int) = 0 then false && false else decide ((a : Int) + (b : Int) < 0)) = false := by
    split
    · rfl
    · exact decide_eq_false (by omega)
  rw [e4]
  exact ⟨_, _, rfl⟩
theorem posF.wr (z : Nat) (k : Int) : posF (S.write (.number false z k)) := near_pos z k
theorem posF.infP : posF (S.write (.infinity false)) := by
  unfold posF
  rw [posF.inf]
  omega
theorem posF.add {a b : Nat} (ha : posF a) (hb : posF b) : posF (addF a b) := by
  have e : addF a b = (((S.read a).sum (S.read b)).map S.write).getD (qnan .f32) := rfl
  rw [e]
  clear e
  rcases ha.read with ⟨m, p, e⟩ | e <;> rcases hb.read with ⟨n, q, e2⟩ | e2 <;> rw [e, e2]
  · obtain ⟨z, k, h⟩ := sum_pos m n p q
    rw [h, Option.map_some, Option.getD_some]
    exact posF.wr z k
  · rw [show (Ieee.Datum.number false m p).sum (.infinity false) = some (.infinity false) from rfl, Option.map_some, Option.getD_some]
    exact posF.infP
  · rw [show (Ieee.Datum.infinity false).sum (.number false n q) = some (.infinity false) from rfl, Option.map_some, Option.getD_some]
    exact posF.infP
  · rw [show (Ieee.Datum.infinity false).sum (.infinity false) = some (.infinity false) from rfl, Option.map_some, Option.getD_some]
    exact posF.infP
theorem sq_pos {d : Nat} (h : (S.read d).isNaN = false) : posF (mulF d d) := by
  have e : mulF d d = (((S.read d).product (S.read d)).map S.write).getD (qnan .f32) := rfl
  rw [e]
  clear e
  cases e : S.read d with
  | nan s t => rw [e] at h; cases h
  | infinity s =>
    rw [show (Ieee.Datum.infinity s).product (.infinity s) = some (.infinity (s ^^ s)) from rfl, Option.map_some, Option.getD_some, Bool.xor_self]
    exact posF.infP
  | number s m p =>
    rw [show (Ieee.Datum.number s m p).product (.number s m p) = some (.number (s ^^ s) (m * m) (p + p)) from rfl, Option.map_some, Option.getD_some, Bool.xor_self]
    exact posF.wr _ _
theorem posF.zero : posF 0 := Nat.zero_le _
theorem sqs_pos {f : Nat → Nat} {n : Nat} (h : ∀ i, i < n → (S.read (f i)).isNaN = false) : ∀ k, k ≤ n → posF (sqsL f k)
  | 0, _ => posF.zero
  | k + 1, hk => (sqs_pos h k (by omega)).add (sq_pos (h k (by omega)))
/-- Lists of ways; misses. -/
def waysOk (css : List (List Nat)) : Bool := decide (1 ≤ css.length) && decide (css.length ≤ 8) && css.all fun c => twoOk c (headL css)
def msMean (xs gs : List Nat) : Nat := divF (sqsL (fun i => subF (xs.getD i 0) (gs.getD i 0)) xs.length) (fI xs.length)
def msQ (xs gs : List Nat) : Nat × Bool := if twoOk xs gs then numB (msMean xs gs) else (0, false)
def rmsQ (xs gs : List Nat) : Nat × Bool := if (msQ xs gs).2 then numB (rootF (msQ xs gs).1) else (0, false)

theorem i_areWays1 (b : Nat) (l : Value) (css : List (List Nat)) (w : World) (hb : b < w.heap.size) (hm : w.cell? ⟨b, 0, none⟩ = some l) (hv : SS w l css) (h0 : 1 ≤ css.length) :
    AsksS 32 (.pointer (some ⟨b, 0, none⟩)) w (fun cs => !twoOk cs (headL css)) := by
  intro v cs w' hB hs
  have h1 := (hB.cell (p := ⟨b, 0, none⟩) hb).trans hm
  obtain ⟨ao, c, rfl, hc1, hc2, hget⟩ := (hv.keep hB).get rfl
  obtain ⟨b0, off, u, rfl, hb0, hc0, hs0⟩ := hget 0 (by omega)
  have hs0 : SB w' u (headL css) := hs0
  have HS := Lib.hid hs
  have HS0 := Lib.hid hs0
  rw [Nat.add_zero] at hc0
  clear hm hget hv hs hs0
  go_enter Try.func32, Try.ntmps32
  go_wp2_with (go_at_call 33; refine (i_areTwo _ _ cs (headL css) _ HS.out.sl HS0.out.sl).mono ?_; rintro e w1 ⟨rfl, n, rfl⟩)
  go_ret
  exact ⟨rfl, _, rfl⟩
theorem i_areWays (v : Value) (css : List (List Nat)) (w : World) (hv : SS w v css) :
    Calls Try.prog 21 #[v] w fun e w' => e = .returned (.bool (waysOk css)) ∧ Below w.heap.size w w' := by
  have HV := Lib.hid hv
  obtain ⟨ao, c, rfl, hc1, hc2⟩ := hv.slice
  clear hv
  by_cases h1 : 1 ≤ css.length
  · by_cases h2 : css.length ≤ 8
    · have HL := Lib.hid (show waysOk css = css.all fun c => twoOk c (headL css) by simp [waysOk, h1, h2])
      go_enter Try.func21, Try.ntmps21
      go_wp2_with (go_at_call 31; refine (f_ContainsFuncS 32 _ (fun cs => !twoOk cs (headL css)) (fun _ _ => by kernel_rfl) _ css _ (HV.out.keep (by (repeat (first | with_reducible exact Below.refl _ _ | with_reducible assumption | with_reducible refine below_drewN ?_ _ | with_reducible refine Below.drew ?_ | with_reducible refine Below.alloc ?_ (by first | omega | (simp; omega) | (simp; done) | (simp at *; omega)) _ | with_reducible refine Below.setCell ?_ (by first | omega | (simp; omega) | (simp; done) | (simp at *; omega)) _ | refine Below.trans ?_ (Below.mono (by with_reducible assumption) (by first | omega | (simp; omega) | (simp; done) | (simp at *; omega))))))) (i_areWays1 _ (.slice ao css.length c) css _ (by simp; try omega) (by go_simp) (HV.out.keep (by (repeat (first | with_reducible exact Below.refl _ _ | with_reducible assumption | with_reducible refine below_drewN ?_ _ | with_reducible refine Below.drew ?_ | with_reducible refine Below.alloc ?_ (by first | omega | (simp; omega) | (simp; done) | (simp at *; omega)) _ | with_reducible refine Below.setCell ?_ (by first | omega | (simp; omega) | (simp; done) | (simp at *; omega)) _ | refine Below.trans ?_ (Below.mono (by with_reducible assumption) (by first | omega | (simp; omega) | (simp; done) | (simp at *; omega))))))) h1)).mono ?_; rintro e w1 ⟨rfl, n, rfl⟩)
      all_goals
        go_ret
        refine ⟨ret_bool ?_, by (repeat (first | with_reducible exact Below.refl _ _ | with_reducible assumption | with_reducible refine below_drewN ?_ _ | with_reducible refine Below.drew ?_ | with_reducible refine Below.alloc ?_ (by first | omega | (simp; omega) | (simp; done) | (simp at *; omega)) _ | with_reducible refine Below.setCell ?_ (by first | omega | (simp; omega) | (simp; done) | (simp at *; omega)) _ | refine Below.trans ?_ (Below.mono (by with_reducible assumption) (by first | omega | (simp; omega) | (simp; done) | (simp at *; omega)))))⟩
        rw [HL.out, ← any_notS]
    · have HL := Lib.hid (show waysOk css = false by simp [waysOk, h2])
      go_enter Try.func21, Try.ntmps21
      go_wp2_with fail
      go_ret
      exact ⟨ret_bool (by rw [HL.out]), by (repeat (first | with_reducible exact Below.refl _ _ | with_reducible assumption | with_reducible refine below_drewN ?_ _ | with_reducible refine Below.drew ?_ | with_reducible refine Below.alloc ?_ (by first | omega | (simp; omega) | (simp; done) | (simp at *; omega)) _ | with_reducible refine Below.setCell ?_ (by first | omega | (simp; omega) | (simp; done) | (simp at *; omega)) _ | refine Below.trans ?_ (Below.mono (by with_reducible assumption) (by first | omega | (simp; omega) | (simp; done) | (simp at *; omega)))))⟩
  · have HL := Lib.hid (show waysOk css = false by simp [waysOk, h1])
    go_enter Try.func21, Try.ntmps21
    go_wp2_with fail
    go_ret
    exact ⟨ret_bool (by rw [HL.out]), by (repeat (first | with_reducible exact Below.refl _ _ | with_reducible assumption | with_reducible refine below_drewN ?_ _ | with_reducible refine Below.drew ?_ | with_reducible refine Below.alloc ?_ (by first | omega | (simp; omega) | (simp; done) | (simp at *; omega)) _ | with_reducible refine Below.setCell ?_ (by first | omega | (simp; omega) | (simp; done) | (simp at *; omega)) _ | refine Below.trans ?_ (Below.mono (by with_reducible assumption) (by first | omega | (simp; omega) | (simp; done) | (simp at *; omega)))))⟩

theorem i_RootMiss1 (d x g q : Nat) (hd : cn .f32 d = d) (hq : mulF d d = q) (hn : (S.read q).isNaN = false) (w : World) :
    Calls Try.prog 35 #[.float .f32 d, .float .f32 x, .float .f32 g] w fun e w' => e = .returned (.float .f32 q) ∧ Dr w w' := by
  have RUN := fun t w => run_arx (P := Try.prog) .mul d d q (by rw [hd]; exact hq) hn t w
  go_enter Try.func35, Try.ntmps35
  go_wp2_with fail
  go_ret
  exact ⟨rfl, Dr.refl _⟩

theorem i_meanMiss (u v : Value) (cs ds : List Nat) (w : World) (hu : SB w u cs) (hv : SB w v ds) :
    Calls Try.prog 34 #[u, v, .func (.func 35) #[] #[]] w fun e w' => NB e (msQ cs ds) ∧ Dr w w' := by
  have HU := Lib.hid hu
  have HV := Lib.hid hv
  cases hok : twoOk cs ds
  · have HOK := Lib.hid hok
    clear hok hu hv
    go_enter Try.func34, Try.ntmps34
    go_wp2_with fail
    refine (i_areTwo _ _ cs ds _ HU.out.sl HV.out.sl).mono ?_; rintro e w1 ⟨rfl, n1, rfl⟩
    rw [HOK.out]
    go_wp2_with fail
    go_ret2
    exact ⟨⟨_, _, rfl, by decide, by rw [msQ, HOK.out]; exact cn0, by rw [msQ, HOK.out]; rfl⟩, Dr.mk _ _⟩
  · have HOK := Lib.hid hok
    obtain ⟨hl, hn96, hn1⟩ := two_len hok
    have hfin : allFin cs = true ∧ allFin ds = true := by
      simp only [twoOk, series, Bool.and_eq_true] at hok
      exact ⟨hok.1.1.2, hok.1.2.2⟩
    obtain ⟨ao, c, rfl, -, -, hg1⟩ := hu.get rfl
    obtain ⟨bo, d, rfl, -, -, hg2⟩ := hv.get hl.symm
    have HG1 := Lib.hid hg1
    have HG2 := Lib.hid hg2
    have HF := Lib.hid hfin
    have HLN := Lib.hid hl
    clear hok hu hv hg1 hg2 hfin hl
    have HPS := Lib.hid (sqs_pos (f := fun i => subF (cs.getD i 0) (ds.getD i 0)) (n := cs.length) (fun i _ => subF_notNaN (fin_getD HF.out.1 i) (fin_getD HF.out.2 i)))
    go_enter Try.func34, Try.ntmps34
    go_wp2_with fail
    refine (i_areTwo _ _ cs ds _ HU.out.sl HV.out.sl).mono ?_; rintro e w1 ⟨rfl, n1, rfl⟩
    rw [HOK.out]
    go_wp2_with fail
    go_loopw [8, 17] (fun s i wr => ∃ k : Nat, k ≤ cs.length ∧ i = .int .i64 (k : Int) ∧ s = .float .f32 (sqsL (fun i => subF (cs.getD i 0) (ds.getD i 0)) k) ∧ ∃ n, wr = w.drewN n) (fun _ i _ => cs.length - (intOf i).toNat)
    case atStart => exact ⟨0, Nat.zero_le _, rfl, rfl, _, rfl⟩
    case round =>
      obtain ⟨k, hk, rfl, rfl, dn, rfl⟩ := hrel
      by_cases hlt : k < cs.length
      · obtain ⟨b1, o1, x, rfl, hbl1, hc1, hx, hcx⟩ := HG1.out k hlt
        obtain ⟨b2, o2, y, rfl, hbl2, hc2, hy, hcy⟩ := HG2.out k hlt
        have fx := fin_getD HF.out.1 k
        have fy := fin_getD HF.out.2 k
        obtain ⟨rfl, -⟩ := raw_of hcx fx
        obtain ⟨rfl, -⟩ := raw_of hcy fy
        have hD := subF_notNaN fx fy
        have hq := sq_pos hD
        have hs := HPS.out k (by omega)
        have hs1 := HPS.out (k + 1) (by omega)
        have RUN1 := fun t w => run_arx (P := Try.prog) .sub (cs.getD k 0) (ds.getD k 0) (subF (cs.getD k 0) (ds.getD k 0)) (by rw [cn_of_not (k := .f32) (fin_notNaN fx), cn_of_not (k := .f32) (fin_notNaN fy)]; rfl) hD t w
        have HC := Lib.hid (fun w => i_RootMiss1 (subF (cs.getD k 0) (ds.getD k 0)) (cs.getD k 0) (ds.getD k 0) _ (cn_of_not (k := .f32) hD) rfl hq.notNaN w)
        have RUN2 := fun t w => run_arx (P := Try.prog) .add (sqsL (fun i => subF (cs.getD i 0) (ds.getD i 0)) k) (mulF (subF (cs.getD k 0) (ds.getD k 0)) (subF (cs.getD k 0) (ds.getD k 0))) (sqsL (fun i => subF (cs.getD i 0) (ds.getD i 0)) (k + 1)) (by rw [cn_of_not (k := .f32) hs.notNaN, cn_of_not (k := .f32) hq.notNaN]; rfl) hs1.notNaN t w
        have HE := fun (args : Array Value) (w : World) => (show (callFunc 35 args).run Try.prog w = .ok (.enter 35 args) w by kernel_rfl)
        generalize hS1 : sqsL (fun i => subF (cs.getD i 0) (ds.getD i 0)) (k + 1) = s1 at *
        have HS1 := Lib.hid hS1
        clear hS1
        generalize sqsL (fun i => subF (cs.getD i 0) (ds.getD i 0)) k = s0 at *
        generalize mulF (subF (cs.getD k 0) (ds.getD k 0)) (subF (cs.getD k 0) (ds.getD k 0)) = qq at *
        generalize subF (cs.getD k 0) (ds.getD k 0) = dd at *
        generalize cs.getD k 0 = xx at *
        generalize ds.getD k 0 = yy at *
        clear hcx hcy fx fy hD hq hs hs1
        go_wp2_with fail
        go_quiet ((go_at_call 35; first | exact quiet_dr (HC.out _) | exact quiet_dr2 (HC.out _)))
        go_wp2_with fail
        exact ⟨⟨k + 1, by omega, by go_num, by rw [HS1.out], _, rfl⟩, by simp [intOf]; omega⟩
      · obtain rfl : k = cs.length := by omega
        have hs := HPS.out cs.length (Nat.le_refl _)
        have HSN := Lib.hid (cn_of_not (k := .f32) hs.notNaN)
        clear hs
        have HMQ := Lib.hid (show msQ cs ds = numB (divF (sqsL (fun i => subF (cs.getD i 0) (ds.getD i 0)) cs.length) (fI cs.length)) by rw [msQ, HOK.out]; rfl)
        generalize sqsL (fun i => subF (cs.getD i 0) (ds.getD i 0)) cs.length = s0 at *
        go_wp2_with (first | (refine wpList_ar .f32 _ _ rfl rfl rfl ?_; intro r1 n1 hr1 hlt1))
        refine (i_ifFinite r1 hlt1 _).mono ?_; rintro e w5 ⟨⟨r2, b2, rfl, hr2, hr3, hb2⟩, n5, rfl⟩
        rw [HSN.out, show cn .f32 (floatOfInt .f32 (cs.length : Int)) = fI cs.length from cn_fI _] at hr1
        rw [hr1] at hr3 hb2
        go_wp2_with fail
        go_ret2
        exact ⟨⟨_, _, rfl, hr2, by rw [HMQ.out]; exact hr3, by rw [HMQ.out]; first | exact hb2 | rfl⟩, Dr.mk _ _⟩

theorem i_RootMiss (u v : Value) (cs ds : List Nat) (w : World) (hu : SB w u cs) (hv : SB w v ds) :
    Calls Try.prog 22 #[u, v] w fun e w' => NB e (rmsQ cs ds) ∧ Dr w w' := by
  have HU := Lib.hid hu
  have HV := Lib.hid hv
  clear hu hv
  cases hok : (msQ cs ds).2
  all_goals
    have HOK := Lib.hid hok
    clear hok
    go_enter Try.func22, Try.ntmps22
    go_wp2_with fail
    refine (i_meanMiss _ _ cs ds _ HU.out HV.out).mono ?_; rintro e w1 ⟨⟨r, b, rfl, hr, hcr, hb⟩, n1, rfl⟩
    rw [HOK.out] at hb
    subst hb
    go_wp2_with fail
  · go_ret2
    exact ⟨⟨_, _, rfl, by decide, by rw [rmsQ, HOK.out]; exact cn0, by rw [rmsQ, HOK.out]; rfl⟩, Dr.mk _ _⟩
  · refine (i_RootNumber r _).mono ?_; rintro e w2 ⟨⟨r2, rfl, hr2, hcr2⟩, n2, rfl⟩
    go_wp2_with fail
    refine (i_ifFinite r2 hr2 _).mono ?_; rintro e w3 ⟨⟨r3, b3, rfl, hr3, hcr3, hb3⟩, n3, rfl⟩
    rw [hcr2, hcr] at hcr3 hb3
    go_wp2_with fail
    go_ret2
    exact ⟨⟨_, _, rfl, hr3, by rw [rmsQ, HOK.out]; exact hcr3, by rw [rmsQ, HOK.out]; first | exact hb3 | rfl⟩, by first | exact Dr.mk _ _ | exact ⟨_, rfl⟩⟩

end Go.Proofs.Ytgonpgfhajfjpaa
