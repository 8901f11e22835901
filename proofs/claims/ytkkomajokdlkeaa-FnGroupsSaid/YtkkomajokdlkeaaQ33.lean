/- Contracts: how far signs are apart. -/
import Derived.Test.YtkkomajokdlkeaaQ8
import Derived.Test.YtkkomajokdlkeaaQ9
import Derived.Test.YtkkomajokdlkeaaQ19
import Derived.Test.YtkkomajokdlkeaaQ20
namespace Go.Proofs.Ytkkomajokdlkeaa
set_option linter.unusedSimpArgs false
set_option linter.unusedVariables false
set_option maxRecDepth 100000
set_option maxHeartbeats 4000000
open Go.RowKit
attribute [local go_sem] run_store_float run_store_complex alloc_drewN setCell_drewN

theorem GL.get {w : World} {v : Value} {xs : List Int} (h : GL (Value.int .i64) w v xs) {n : Nat} (hn : xs.length = n) : ∃ ao c, v = .slice ao n c ∧ n ≤ c ∧ c ≤ 9223372036854775807 ∧ ∀ i, i < n → ∃ b off, ao = some ⟨b, off, none⟩ ∧ b < w.heap.size ∧ w.cell? ⟨b, off + i, none⟩ = some (.int .i64 (xs.getD i 0)) := by
  obtain ⟨ao, c, rfl, h3, h4⟩ := h
  subst hn
  refine ⟨ao, c, rfl, h3.1, h3.2, fun i hi => ?_⟩
  obtain ⟨b, off, e1, e2, e3⟩ := h4 i hi
  exact ⟨b, off, e1, e2, by rw [e3]; simp [hi]⟩
def indexI (p : Int → Bool) (cs : List Int) : Int := match cs.findIdx? p with | some i => i | none => -1
theorem indexI_found {p : Int → Bool} {cs : List Int} {k : Nat} (hk : k < cs.length) (h1 : ∀ i, i < k → p (cs.getD i 0) = false) (h2 : p (cs.getD k 0) = true) : indexI p cs = k := by
  have hg : ∀ i (h : i < cs.length), cs.getD i 0 = cs[i] := fun i h => by simp [h]
  have : cs.findIdx? p = some k := by
    rw [List.findIdx?_eq_some_iff_getElem]
    refine ⟨hk, by rw [← hg]; exact h2, fun j hj => ?_⟩
    rw [← hg j (by omega), h1 j hj]; simp
  simp [indexI, this]
theorem indexI_none {p : Int → Bool} {cs : List Int} (h1 : ∀ i, i < cs.length → p (cs.getD i 0) = false) : indexI p cs = -1 := by
  have hg : ∀ i (h : i < cs.length), cs.getD i 0 = cs[i] := fun i h => by simp [h]
  have : cs.findIdx? p = none := by
    rw [List.findIdx?_eq_none_iff]
    intro x hx
    obtain ⟨i, hi, rfl⟩ := List.getElem_of_mem hx
    rw [← hg i hi, h1 i hi]
  simp [indexI, this]
theorem indexI_geq (p : Int → Bool) (cs : List Int) : decide (0 ≤ indexI p cs) = cs.any p := by
  unfold indexI
  cases h : cs.findIdx? p with
  | none =>
    rw [List.findIdx?_eq_none_iff] at h
    have : cs.any p = false := by rw [List.any_eq_false]; intro x hx; simp [h x hx]
    rw [this]; rfl
  | some i =>
    obtain ⟨hi, h1, h2⟩ := List.findIdx?_eq_some_iff_getElem.1 h
    have : cs.any p = true := List.any_eq_true.2 ⟨cs[i], List.getElem_mem _, h1⟩
    rw [this]; simp
/-- A function value that asks something of an integer, and reads what it has captured. -/
def AsksI (F : Nat) (p q : Value) (B : Nat) (w : World) (g : Int → Bool) : Prop :=
  ∀ x w', (Lit.int .i64 x).wf = true → Below B w w' → Calls Try.prog F #[.int .i64 x, p, q] w' fun e w'' => e = .returned (.bool (g x)) ∧ Dr w' w''
theorem AsksI.at {F : Nat} {p q : Value} {B : Nat} {w : World} {g : Int → Bool} (h : AsksI F p q B w g) (x : Int) (w' : World) (hx : (Lit.int .i64 x).wf = true) (hb : Below B w w') :
    Calls Try.prog F #[.int .i64 x, p, q] w' fun e w'' => e = .returned (.bool (g x)) ∧ Dr w' w'' := h x w' hx hb

def allIn (xs : List Int) (low high : Int) : Bool := xs.all fun x => inB x low high
def signOk (n : Nat) (xs : List Int) : Bool := decide (1 ≤ xs.length) && decide (xs.length ≤ 96) && allIn xs 0 n
def sfD (cuts : List Nat) (x y : Int) : Nat := if max x y - min x y > 1 then subF (cuts.getD (max x y - 1).toNat 0) (cuts.getD (min x y).toNat 0) else 0
def sfAt (cuts : List Nat) (al bl : List Int) : Nat → Nat
  | 0 => 0
  | k + 1 => addF (sfAt cuts al bl k) (mulF (sfD cuts (al.getD k 0) (bl.getD k 0)) (sfD cuts (al.getD k 0) (bl.getD k 0)))
def sfOk (al bl : List Int) (cuts : List Nat) : Bool := cutsOk cuts && signOk cuts.length al && signOk cuts.length bl && decide (al.length = bl.length)
def sfQ (al bl : List Int) (cuts : List Nat) : Nat × Bool := if sfOk al bl cuts then numB (rootF (sfAt cuts al bl al.length)) else (0, false)
theorem sfQ_no {al bl : List Int} {cuts : List Nat} (h : sfOk al bl cuts = false) : sfQ al bl cuts = (0, false) := by rw [sfQ, h]; rfl
theorem sfQ_yes {al bl : List Int} {cuts : List Nat} (h : sfOk al bl cuts = true) : sfQ al bl cuts = numB (rootF (sfAt cuts al bl al.length)) := by rw [sfQ, h]; rfl
theorem sfOk_i (al bl : List Int) (cuts : List Nat) : sfOk al bl cuts = (cutsOk cuts && (inB al.length 1 96 && allIn al 0 cuts.length) && (inB bl.length al.length al.length && allIn bl 0 cuts.length)) := by
  have h1 : inB al.length 1 96 = (decide (1 ≤ al.length) && decide (al.length ≤ 96)) := by
    unfold inB; rw [Bool.eq_iff_iff]; simp; omega
  have h2 : inB bl.length al.length al.length = decide (al.length = bl.length) := by
    unfold inB; rw [Bool.eq_iff_iff]; simp; omega
  rw [h1, h2]
  unfold sfOk signOk
  by_cases hl : al.length = bl.length
  · rw [← hl]
    rw [Bool.eq_iff_iff]
    simp only [Bool.and_eq_true, decide_eq_true_eq]
    constructor
    · rintro ⟨⟨⟨a, ⟨b, c⟩, d⟩, ⟨e, f⟩, g⟩, h⟩
      exact ⟨⟨a, ⟨b, c⟩, d⟩, h, g⟩
    · rintro ⟨⟨a, ⟨b, c⟩, d⟩, h, g⟩
      exact ⟨⟨⟨a, ⟨b, c⟩, d⟩, ⟨b, c⟩, g⟩, h⟩
  · simp [hl]
theorem allIn_get {xs : List Int} {l h : Int} (ha : allIn xs l h = true) {i : Nat} (hi : i < xs.length) : l ≤ xs.getD i 0 ∧ xs.getD i 0 ≤ h := by
  unfold allIn at ha
  rw [List.all_eq_true] at ha
  have e : xs.getD i 0 = xs[i] := by simp [hi]
  rw [e]
  have := ha _ (List.getElem_mem hi)
  rwa [inB_iff] at this

theorem any_notI (p : Int → Bool) (cs : List Int) : (!cs.any fun c => !p c) = cs.all p := by
  induction cs with
  | nil => rfl
  | cons c cs ih => simp [List.any_cons, List.all_cons, ← ih]

def Enters2I (F : Nat) : Prop := ∀ (args : Array Value) (w : World), (callFunc F args).run Try.prog w = .ok (.enter F args) w
theorem f_IndexFuncI (F : Nat) (p q : Value) (g : Int → Bool) (hE : Enters2I F) (v : Value) (cs : List Int) (w : World) (hv : GL (Value.int .i64) w v cs) (hwf : allWf cs) (hF : AsksI F p q w.heap.size w g) :
    Calls Try.prog 154 #[v, .func (.func F) #[] #[p, q]] w fun e w' => e = .returned (.int .i64 (indexI g cs)) ∧ Dr w w' := by
  obtain ⟨ao, c, rfl, hc1, hc2, hget⟩ := hv.get rfl
  have HF := Lib.hid hF
  have HC := Lib.hid hget
  have HW := Lib.hid hwf
  clear hF hget hwf
  unfold Enters2I at hE
  go_enter Try.func154, Try.ntmps154
  go_wp2_with fail
  go_loopw [8] (fun i wr => ∃ k : Nat, k ≤ cs.length ∧ i = .int .i64 k ∧ Hid (∀ i, i < k → g (cs.getD i 0) = false) ∧ ∃ d, wr = w.drewN d) (fun i _ => cs.length - (intOf i).toNat)
  case atStart => exact ⟨0, Nat.zero_le _, rfl, (by intro i hi; omega), 0, rfl⟩
  case round =>
    obtain ⟨k, hk, rfl, H1, d, rfl⟩ := hrel
    by_cases hlt : k < cs.length
    · obtain ⟨b, off, rfl, hb, hc⟩ := HC.out k hlt
      obtain ⟨xk, hxk⟩ : ∃ xk, xk = cs.getD k 0 := ⟨_, rfl⟩
      have hxw := HW.out.get k
      rw [← hxk] at hc hxw
      have HX := Lib.hid hxk
      clear hxk
      cases hp : g xk
      all_goals
        have HP := Lib.hid hp
        go_wp2_with ((with_reducible refine (AsksI.at HF.out _ _ hxw (below_drewN (Below.refl _ _) _)).mono ?_); rintro e w1 ⟨rfl, n, rfl⟩)
      · refine ⟨⟨k + 1, by omega, by go_num, ?_, _, rfl⟩, by simp [intOf]; omega⟩
        intro i hi
        rcases Nat.lt_or_ge i k with h | h
        · exact H1.out i h
        · obtain rfl : i = k := by omega
          rw [← HX.out]; exact HP.out
      · go_ret
        refine ⟨ret_int ?_, _, rfl⟩
        exact (indexI_found hlt H1.out (by rw [← HX.out]; exact HP.out)).symm
    · go_wp2_with fail
      go_ret
      obtain rfl : k = cs.length := by omega
      exact ⟨ret_int (indexI_none H1.out).symm, _, rfl⟩

theorem f_ContainsFuncI (F : Nat) (p q : Value) (g : Int → Bool) (hE : Enters2I F) (v : Value) (cs : List Int) (w : World) (hv : GL (Value.int .i64) w v cs) (hwf : allWf cs) (hF : AsksI F p q w.heap.size w g) :
    Calls Try.prog 141 #[v, .func (.func F) #[] #[p, q]] w fun e w' => e = .returned (.bool (cs.any g)) ∧ Dr w w' := by
  go_enter Try.func141, Try.ntmps141
  go_wp2_with (go_at_call 154; refine (f_IndexFuncI F p q g hE v cs _ hv hwf hF).mono ?_; rintro e w1 ⟨rfl, n, rfl⟩)
  go_ret
  refine ⟨?_, _, rfl⟩
  rw [← indexI_geq]; rfl

theorem i_areWithin1 (b b' B : Nat) (low high : Int) (w : World) (hb : b < B) (hb' : b' < B) (hm : w.cell? ⟨b, 0, none⟩ = some (.int .i64 low)) (hk : w.cell? ⟨b', 0, none⟩ = some (.int .i64 high)) :
    AsksI 142 (.pointer (some ⟨b, 0, none⟩)) (.pointer (some ⟨b', 0, none⟩)) B w (fun x => !inB x low high) := by
  intro x w' hx hB
  have h1 := (hB.cell (p := ⟨b, 0, none⟩) hb).trans hm
  have h2 := (hB.cell (p := ⟨b', 0, none⟩) hb').trans hk
  clear hm hk
  go_enter Try.func142, Try.ntmps142
  go_wp2_with (go_at_call 56; refine (i_within _ _ _ _).mono ?_; rintro e w1 ⟨rfl, n, rfl⟩)
  go_ret
  exact ⟨rfl, _, rfl⟩
theorem i_areWithin (v : Value) (xs : List Int) (low high : Int) (w : World) (hv : GL (Value.int .i64) w v xs) (hwf : allWf xs) :
    Calls Try.prog 121 #[v, .int .i64 low, .int .i64 high] w fun e w' => e = .returned (.bool (allIn xs low high)) ∧ Below w.heap.size w w' := by
  have HV := Lib.hid hv
  clear hv
  go_enter Try.func121, Try.ntmps121
  go_wp2_with (go_at_call 141; refine (f_ContainsFuncI 142 _ _ (fun x => !inB x low high) (fun _ _ => by kernel_rfl) _ xs _ (GL.keep HV.out (by (repeat (first | exact Below.refl _ _ | assumption | refine below_drewN ?_ _ | refine Below.drew ?_ | refine Below.alloc ?_ (by first | omega | (simp; omega) | (simp; done) | (simp at *; omega)) _ | refine Below.setCell ?_ (by first | omega | (simp; omega) | (simp; done) | (simp at *; omega)) _ | refine Below.trans ?_ (Below.mono (by assumption) (by first | omega | (simp; omega) | (simp; done) | (simp at *; omega))))))) hwf (i_areWithin1 _ _ _ low high _ (by simp; try omega) (by simp; try omega) (by go_simp) (by go_simp))).mono ?_; rintro e w1 ⟨rfl, n, rfl⟩)
  go_ret
  refine ⟨ret_bool ?_, by (repeat (first | exact Below.refl _ _ | assumption | refine below_drewN ?_ _ | refine Below.drew ?_ | refine Below.alloc ?_ (by first | omega | (simp; omega) | (simp; done) | (simp at *; omega)) _ | refine Below.setCell ?_ (by first | omega | (simp; omega) | (simp; done) | (simp at *; omega)) _ | refine Below.trans ?_ (Below.mono (by assumption) (by first | omega | (simp; omega) | (simp; done) | (simp at *; omega)))))⟩
  exact any_notI _ _

theorem i_areMany (v : Value) (xs : List Int) (few many low high : Int) (w : World) (hv : GL (Value.int .i64) w v xs) (hwf : allWf xs) :
    Calls Try.prog 68 #[v, .int .i64 few, .int .i64 many, .int .i64 low, .int .i64 high] w fun e w' => e = .returned (.bool (inB xs.length few many && allIn xs low high)) ∧ Below w.heap.size w w' := by
  obtain ⟨ao, c, rfl, hc1, hc2⟩ := hv.slice
  cases hp : inB xs.length few many
  all_goals
    have HP := Lib.hid hp
    clear hp
    go_enter Try.func68, Try.ntmps68
    go_wp2_with (first | (go_at_call 56; refine (i_within _ _ _ _).mono ?_; rintro e w1 ⟨rfl, n, rfl⟩; rw [HP.out]) | (go_at_call 121; refine (i_areWithin _ xs _ _ _ (hv.drewN _) hwf).mono ?_; rintro e w2 ⟨rfl, hb2⟩; simp only [World.heap_drewN] at hb2))
    go_ret
    refine ⟨ret_bool (by simp), ?_⟩
    first | ((repeat (first | exact Below.refl _ _ | assumption | refine below_drewN ?_ _ | refine Below.drew ?_ | refine Below.alloc ?_ (by first | omega | (simp; omega) | (simp; done) | (simp at *; omega)) _ | refine Below.setCell ?_ (by first | omega | (simp; omega) | (simp; done) | (simp at *; omega)) _ | refine Below.trans ?_ (Below.mono (by assumption) (by first | omega | (simp; omega) | (simp; done) | (simp at *; omega))))); done) | exact below_undrew hb2

theorem i_SignFar (u v x : Value) (al bl : List Int) (cuts : List Nat) (w : World) (hu : GL (Value.int .i64) w u al) (hv : GL (Value.int .i64) w v bl) (hx : SB w x cuts) (hwa : allWf al) (hwb : allWf bl) (hn : cuts.length ≤ 1048576) :
    Calls Try.prog 21 #[u, v, x] w fun e w' => NB e (sfQ al bl cuts) ∧ Below w.heap.size w w' := by
  have HU := Lib.hid hu
  have HV := Lib.hid hv
  have HX := Lib.hid hx
  obtain ⟨ao, ca, rfl, ha1, ha2, hga⟩ := hu.get rfl
  obtain ⟨bo, cb, rfl, hb1, hb2, hgb⟩ := hv.get rfl
  obtain ⟨co, cc, rfl, hc1, hc2, hgc⟩ := hx.get rfl
  have HGA := Lib.hid hga
  have HGB := Lib.hid hgb
  have HGC := Lib.hid hgc
  clear hu hv hx hga hgb hgc
  cases hok : sfOk al bl cuts
  · have HOK := Lib.hid hok
    rw [sfOk_i] at hok
    cases t1 : cutsOk cuts
    all_goals
      cases t2 : (inB al.length 1 96 && allIn al 0 cuts.length)
      all_goals
        cases t3 : (inB bl.length al.length al.length && allIn bl 0 cuts.length)
        all_goals first
          | (exfalso; rw [t1, t2, t3] at hok; cases hok; done)
          | (have T1 := Lib.hid t1
             have T2 := Lib.hid t2
             have T3 := Lib.hid t3
             clear hok t1 t2 t3
             go_enter Try.func21, Try.ntmps21
             go_wp2_with (first
               | (go_at_call 71; refine (i_areCuts _ cuts _ HX.out).mono ?_; rintro e w1 ⟨rfl, n1, rfl⟩; rw [T1.out])
               | (go_at_call_of 68 (Value.slice ao al.length ca); refine (i_areMany _ al _ _ _ _ _ (HU.out.drewN _) hwa).mono ?_; rintro e w2 ⟨rfl, hb2'⟩; rw [T2.out]; have hb2' := below_undrew hb2'; have hz2 := hb2'.size)
               | (go_at_call_of 68 (Value.slice bo bl.length cb); refine (i_areMany _ bl _ _ _ _ _ (HV.out.keep hb2') hwb).mono ?_; rintro e w3 ⟨rfl, hb3'⟩; rw [T3.out]; have hz3 := hb3'.size))
             go_ret2
             exact ⟨⟨0, false, rfl, by omega, by rw [sfQ_no HOK.out]; exact cn0, by rw [sfQ_no HOK.out]⟩, by (repeat (first | exact Below.refl _ _ | assumption | refine below_drewN ?_ _ | refine Below.drew ?_ | refine Below.alloc ?_ (by first | omega | (simp; omega) | (simp; done) | (simp at *; omega)) _ | refine Below.setCell ?_ (by first | omega | (simp; omega) | (simp; done) | (simp at *; omega)) _ | refine Below.trans ?_ (Below.mono (by assumption) (by first | omega | (simp; omega) | (simp; done) | (simp at *; omega)))))⟩)
  · have hok2 := hok
    simp only [sfOk, signOk, Bool.and_eq_true, decide_eq_true_eq] at hok2
    obtain ⟨⟨⟨k1, ⟨k2, k3⟩, k4⟩, ⟨k5, k6⟩, k7⟩, k8⟩ := hok2
    have hcl : cuts.length ≤ 16 := by simp only [cutsOk, Bool.and_eq_true, decide_eq_true_eq] at k1; exact k1.1.1
    have HOK := Lib.hid hok
    have HLE := Lib.hid k8
    have HK4 := Lib.hid k4
    have HK7 := Lib.hid k7
    have hoi := hok
    rw [sfOk_i] at hoi
    simp only [Bool.and_eq_true] at hoi
    have T1 := Lib.hid hoi.1.1
    have T2 := Lib.hid (show (inB al.length 1 96 && allIn al 0 cuts.length) = true by simp only [Bool.and_eq_true]; exact hoi.1.2)
    have T3 := Lib.hid (show (inB bl.length al.length al.length && allIn bl 0 cuts.length) = true by simp only [Bool.and_eq_true]; exact hoi.2)
    clear hoi
    clear hok k1 k4 k7 k8
    go_enter Try.func21, Try.ntmps21
    go_wp2_with (first 
               | (go_at_call 71; refine (i_areCuts _ cuts _ HX.out).mono ?_; rintro e w1 ⟨rfl, n1, rfl⟩; rw [T1.out])
               | (go_at_call_of 68 (Value.slice ao al.length ca); refine (i_areMany _ al _ _ _ _ _ (HU.out.drewN _) hwa).mono ?_; rintro e w2 ⟨rfl, hb2'⟩; rw [T2.out]; have hb2' := below_undrew hb2'; have hz2 := hb2'.size)
               | (go_at_call_of 68 (Value.slice bo bl.length cb); refine (i_areMany _ bl _ _ _ _ _ (HV.out.keep hb2') hwb).mono ?_; rintro e w3 ⟨rfl, hb3'⟩; rw [T3.out]; have hz3 := hb3'.size))
    have hbw : Below w.heap.size w w3 := hb2'.trans (hb3'.mono hz2)
    go_loopw [10, 39] (fun s i wr => ∃ k : Nat, k ≤ al.length ∧ i = .int .i64 (k : Int) ∧ (∃ r, s = .float .f32 r ∧ r < 4294967296 ∧ Hid (cn .f32 r = sfAt cuts al bl k)) ∧ Below w.heap.size w wr) (fun _ i _ => al.length - (intOf i).toNat)
    case atStart => exact ⟨0, Nat.zero_le _, rfl, ⟨0, rfl, by omega, cn0⟩, hbw⟩
    case round =>
      obtain ⟨k, hk, rfl, ⟨r, rfl, hr, HR⟩, hb⟩ := hrel
      by_cases hlt : k < al.length
      · have hltb : k < bl.length := by have := HLE.out; omega
        obtain ⟨b1, o1, rfl, hbq1, hca⟩ := HGA.out k hlt
        obtain ⟨b2, o2, rfl, hbq2, hcb⟩ := HGB.out k hltb
        have hca' := (hb.cell (p := ⟨b1, o1 + k, none⟩) hbq1).trans hca
        have hcb' := (hb.cell (p := ⟨b2, o2 + k, none⟩) hbq2).trans hcb
        obtain ⟨xa, hxa⟩ : ∃ xa, xa = al.getD k 0 := ⟨_, rfl⟩
        obtain ⟨xb, hxb⟩ : ∃ xb, xb = bl.getD k 0 := ⟨_, rfl⟩
        have ra := allIn_get HK4.out hlt
        have rb := allIn_get HK7.out hltb
        rw [← hxa] at hca' ra
        rw [← hxb] at hcb' rb
        have HXA := Lib.hid hxa
        have HXB := Lib.hid hxb
        obtain ⟨na, rfl⟩ := Int.eq_ofNat_of_zero_le ra.1
        obtain ⟨nb, rfl⟩ := Int.eq_ofNat_of_zero_le rb.1
        have hna : na ≤ cuts.length := by omega
        have hnb : nb ≤ cuts.length := by omega
        clear hca hcb hxa hxb ra rb
        obtain ⟨RS, NS, hS⟩ := run_ar_all Try.prog .sub rfl
        have hS1 := fun t x y w => (hS t x y w).1
        have HS := Lib.hid (fun t x y w => (hS t x y w).2)
        clear hS
        have hki : (k : Int) < (bl.length : Int) := by omega
        have HSD := Lib.hid (show sfAt cuts al bl (k + 1) = addF (sfAt cuts al bl k) (mulF (sfD cuts na nb) (sfD cuts na nb)) by rw [HXA.out, HXB.out]; rfl)
        rcases Nat.lt_or_ge (na + 1) nb with hd | hd
        · obtain ⟨b3, o3, y1, e3, hbl3, hcc, hy1, hcy1⟩ := HGC.out (nb - 1) (by omega)
          obtain ⟨b4, o4, y2, e4, hbl4, hcd, hy2, hcy2⟩ := HGC.out na (by omega)
          subst e3
          simp only [Option.some.injEq, Addr.mk.injEq, and_true] at e4
          obtain ⟨rfl, rfl⟩ := e4
          have hcc' := (hb.cell (p := ⟨b3, o3 + (nb - 1), none⟩) hbl3).trans hcc
          have hcd' := (hb.cell (p := ⟨b3, o3 + na, none⟩) hbl3).trans hcd
          have HY1 := Lib.hid hcy1
          have HY2 := Lib.hid hcy2
          have HSV := Lib.hid (show sfD cuts na nb = subF (cuts.getD (nb - 1) 0) (cuts.getD na 0) by
            unfold sfD
            rw [if_pos (by omega), show (max (na : Int) nb - 1).toNat = nb - 1 by omega, show (min (na : Int) nb).toNat = na by omega])
          clear hcc hcd hcy1 hcy2
          have hmin : min (na : Int) (nb : Int) = (na : Int) := by omega
          have hmax : max (na : Int) (nb : Int) = (nb : Int) := by omega
          have hw1 : IntKind.i64.wrap ((nb : Int) - 1) = ((nb - 1 : Nat) : Int) := by rw [IntKind.wrap_i64]; omega
          have hw2 : IntKind.i64.wrap ((nb : Int) - (na : Int)) = ((nb - na : Nat) : Int) := by rw [IntKind.wrap_i64]; omega
          have hj1 : (1 : Int) < ((nb - na : Nat) : Int) := by omega
          have hj2 : ((nb - 1 : Nat) : Int) < (cuts.length : Int) := by omega
          have hj3 : (na : Int) < (cuts.length : Int) := by omega
          go_wp2_with fail
          go_quiet (fail)
          go_wp2_with fail
          go_region
          generalize hq : RS y1 y2 _ = q
          have hq1 : cn .f32 q = sfD cuts na nb := by rw [← hq, (HS.out 0 _ _ _).1, HY1.out, HY2.out, HSV.out]; rfl
          clear hS1 hq hw1 hw2
          have HQ := Lib.hid hq1
          clear hq1
          go_wp2_with (refine wpList_ar .f32 _ _ rfl rfl rfl ?_; intro r1 n1 hr1 hlt1)
          refine ⟨⟨k + 1, by omega, by go_num, ⟨_, rfl, hlt1, ?_⟩, by (repeat (first | exact Below.refl _ _ | assumption | refine below_drewN ?_ _ | refine Below.drew ?_ | refine Below.alloc ?_ (by first | omega | (simp; omega) | (simp; done) | (simp at *; omega)) _ | refine Below.setCell ?_ (by first | omega | (simp; omega) | (simp; done) | (simp at *; omega)) _ | refine Below.trans ?_ (Below.mono (by assumption) (by first | omega | (simp; omega) | (simp; done) | (simp at *; omega)))))⟩, by simp [intOf]; omega⟩
          have hR := HR.out
          have hQ := HQ.out
          show _ = _
          rw [HSD.out]
          simp only [addF, mulF, *]
        · rcases Nat.lt_or_ge (nb + 1) na with hd2 | hd2
          · obtain ⟨b3, o3, y1, e3, hbl3, hcc, hy1, hcy1⟩ := HGC.out (na - 1) (by omega)
            obtain ⟨b4, o4, y2, e4, hbl4, hcd, hy2, hcy2⟩ := HGC.out nb (by omega)
            subst e3
            simp only [Option.some.injEq, Addr.mk.injEq, and_true] at e4
            obtain ⟨rfl, rfl⟩ := e4
            have hcc' := (hb.cell (p := ⟨b3, o3 + (na - 1), none⟩) hbl3).trans hcc
            have hcd' := (hb.cell (p := ⟨b3, o3 + nb, none⟩) hbl3).trans hcd
            have HY1 := Lib.hid hcy1
            have HY2 := Lib.hid hcy2
            have HSV := Lib.hid (show sfD cuts na nb = subF (cuts.getD (na - 1) 0) (cuts.getD nb 0) by
              unfold sfD
              rw [if_pos (by omega), show (max (na : Int) nb - 1).toNat = na - 1 by omega, show (min (na : Int) nb).toNat = nb by omega])
            clear hcc hcd hcy1 hcy2
            have hmin : min (na : Int) (nb : Int) = (nb : Int) := by omega
            have hmax : max (na : Int) (nb : Int) = (na : Int) := by omega
            have hw1 : IntKind.i64.wrap ((na : Int) - 1) = ((na - 1 : Nat) : Int) := by rw [IntKind.wrap_i64]; omega
            have hw2 : IntKind.i64.wrap ((na : Int) - (nb : Int)) = ((na - nb : Nat) : Int) := by rw [IntKind.wrap_i64]; omega
            have hj1 : (1 : Int) < ((na - nb : Nat) : Int) := by omega
            have hj2 : ((na - 1 : Nat) : Int) < (cuts.length : Int) := by omega
            have hj3 : (nb : Int) < (cuts.length : Int) := by omega
            go_wp2_with fail
            go_quiet (fail)
            go_wp2_with fail
            go_region
            generalize hq : RS y1 y2 _ = q
            have hq1 : cn .f32 q = sfD cuts na nb := by rw [← hq, (HS.out 0 _ _ _).1, HY1.out, HY2.out, HSV.out]; rfl
            clear hS1 hq hw1 hw2
            have HQ := Lib.hid hq1
            clear hq1
            go_wp2_with (refine wpList_ar .f32 _ _ rfl rfl rfl ?_; intro r1 n1 hr1 hlt1)
            refine ⟨⟨k + 1, by omega, by go_num, ⟨_, rfl, hlt1, ?_⟩, by (repeat (first | exact Below.refl _ _ | assumption | refine below_drewN ?_ _ | refine Below.drew ?_ | refine Below.alloc ?_ (by first | omega | (simp; omega) | (simp; done) | (simp at *; omega)) _ | refine Below.setCell ?_ (by first | omega | (simp; omega) | (simp; done) | (simp at *; omega)) _ | refine Below.trans ?_ (Below.mono (by assumption) (by first | omega | (simp; omega) | (simp; done) | (simp at *; omega)))))⟩, by simp [intOf]; omega⟩
            have hR := HR.out
            have hQ := HQ.out
            show _ = _
            rw [HSD.out]
            simp only [addF, mulF, *]
          · have HSV := Lib.hid (show sfD cuts na nb = 0 by unfold sfD; rw [if_neg (by omega)])
            have hd3 : nb = na ∨ nb = na + 1 ∨ na = nb + 1 := by omega
            rcases hd3 with h | h | h
            · subst h
              have hmin : min (nb : Int) (nb : Int) = (nb : Int) := by omega
              have hmax : max (nb : Int) (nb : Int) = (nb : Int) := by omega
              have hdd : (nb : Int) - (nb : Int) = 0 := by omega
              (try simp only [Int.natCast_add, Int.natCast_one] at hca' hcb')
              (try simp only [Int.natCast_add, Int.natCast_one])
              go_wp2_with fail
              go_quiet (fail)
              go_wp2_with (refine wpList_ar .f32 _ _ rfl rfl rfl ?_; intro r1 n1 hr1 hlt1)
              refine ⟨⟨k + 1, by omega, by go_num, ⟨_, rfl, hlt1, ?_⟩, by (repeat (first | exact Below.refl _ _ | assumption | refine below_drewN ?_ _ | refine Below.drew ?_ | refine Below.alloc ?_ (by first | omega | (simp; omega) | (simp; done) | (simp at *; omega)) _ | refine Below.setCell ?_ (by first | omega | (simp; omega) | (simp; done) | (simp at *; omega)) _ | refine Below.trans ?_ (Below.mono (by assumption) (by first | omega | (simp; omega) | (simp; done) | (simp at *; omega)))))⟩, by simp [intOf]; omega⟩
              have hR := HR.out
              show _ = _
              rw [HSD.out, HSV.out]
              simp only [addF, mulF, cn0, *]
            · subst h
              have hmin : min (na : Int) ((na : Int) + 1) = (na : Int) := by omega
              have hmax : max (na : Int) ((na : Int) + 1) = ((na : Int) + 1) := by omega
              have hdd : ((na : Int) + 1) - (na : Int) = 1 := by omega
              (try simp only [Int.natCast_add, Int.natCast_one] at hca' hcb')
              (try simp only [Int.natCast_add, Int.natCast_one])
              go_wp2_with fail
              go_quiet (fail)
              go_wp2_with (refine wpList_ar .f32 _ _ rfl rfl rfl ?_; intro r1 n1 hr1 hlt1)
              refine ⟨⟨k + 1, by omega, by go_num, ⟨_, rfl, hlt1, ?_⟩, by (repeat (first | exact Below.refl _ _ | assumption | refine below_drewN ?_ _ | refine Below.drew ?_ | refine Below.alloc ?_ (by first | omega | (simp; omega) | (simp; done) | (simp at *; omega)) _ | refine Below.setCell ?_ (by first | omega | (simp; omega) | (simp; done) | (simp at *; omega)) _ | refine Below.trans ?_ (Below.mono (by assumption) (by first | omega | (simp; omega) | (simp; done) | (simp at *; omega)))))⟩, by simp [intOf]; omega⟩
              have hR := HR.out
              show _ = _
              rw [HSD.out, HSV.out]
              simp only [addF, mulF, cn0, *]
            · subst h
              have hmin : min ((nb : Int) + 1) (nb : Int) = (nb : Int) := by omega
              have hmax : max ((nb : Int) + 1) (nb : Int) = ((nb : Int) + 1) := by omega
              have hdd : ((nb : Int) + 1) - (nb : Int) = 1 := by omega
              (try simp only [Int.natCast_add, Int.natCast_one] at hca' hcb')
              (try simp only [Int.natCast_add, Int.natCast_one])
              go_wp2_with fail
              go_quiet (fail)
              go_wp2_with (refine wpList_ar .f32 _ _ rfl rfl rfl ?_; intro r1 n1 hr1 hlt1)
              refine ⟨⟨k + 1, by omega, by go_num, ⟨_, rfl, hlt1, ?_⟩, by (repeat (first | exact Below.refl _ _ | assumption | refine below_drewN ?_ _ | refine Below.drew ?_ | refine Below.alloc ?_ (by first | omega | (simp; omega) | (simp; done) | (simp at *; omega)) _ | refine Below.setCell ?_ (by first | omega | (simp; omega) | (simp; done) | (simp at *; omega)) _ | refine Below.trans ?_ (Below.mono (by assumption) (by first | omega | (simp; omega) | (simp; done) | (simp at *; omega)))))⟩, by simp [intOf]; omega⟩
              have hR := HR.out
              show _ = _
              rw [HSD.out, HSV.out]
              simp only [addF, mulF, cn0, *]
      · obtain rfl : k = al.length := by omega
        go_wp2_with (first
          | (go_at_call 73; refine (i_RootNumber _ _).mono ?_; rintro e w6 ⟨⟨r6, rfl, hr6, hs6⟩, n6, rfl⟩; have HS6 := Lib.hid hs6; clear hs6)
          | (go_at_call 72; refine (i_ifFinite _ hr6 _).mono ?_; rintro e w7 ⟨⟨r7, b7, rfl, hr7, hr8, hr9⟩, n7, rfl⟩; have HR2 := Lib.hid hr8; have HR3 := Lib.hid hr9; clear hr8 hr9))
        go_ret2
        refine ⟨⟨_, _, rfl, hr7, ?_, ?_⟩, by (repeat (first | exact Below.refl _ _ | assumption | refine below_drewN ?_ _ | refine Below.drew ?_ | refine Below.alloc ?_ (by first | omega | (simp; omega) | (simp; done) | (simp at *; omega)) _ | refine Below.setCell ?_ (by first | omega | (simp; omega) | (simp; done) | (simp at *; omega)) _ | refine Below.trans ?_ (Below.mono (by assumption) (by first | omega | (simp; omega) | (simp; done) | (simp at *; omega)))))⟩
        · rw [HR2.out, HS6.out, HR.out, sfQ_yes HOK.out]
        · rw [HR3.out, HS6.out, HR.out, sfQ_yes HOK.out]

end Go.Proofs.Ytkkomajokdlkeaa
