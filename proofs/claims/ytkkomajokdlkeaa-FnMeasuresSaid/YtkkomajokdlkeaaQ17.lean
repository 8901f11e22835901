/- Contracts: square roots. -/
import Derived.Test.YtkkomajokdlkeaaQ6
import Derived.Test.YtkkomajokdlkeaaQ10
import Derived.Test.YtkkomajokdlkeaaQ15
namespace Go.Proofs.Ytkkomajokdlkeaa
set_option linter.unusedSimpArgs false
set_option linter.unusedVariables false
set_option maxRecDepth 100000
set_option maxHeartbeats 4000000
open Go.RowKit
attribute [local go_sem] run_store_float run_store_complex alloc_drewN setCell_drewN

theorem run_nw {P : Program} (w : World) (src dst : TypeId) (b : Nat) (hs : (P.underlying src).isSome = true) (hd : P.underlying dst = some (.float .f32)) (hok : nwOk (cn .f64 b)) :
    ∃ r n, (convert src dst (.float .f64 b)).run P w = .ok (.float .f32 r) (w.drewN n) ∧ cn .f32 r = nwD (cn .f64 b) ∧ r < 4294967296 := by
  obtain ⟨u, hs'⟩ := Option.isSome_iff_exists.1 hs
  cases hn : (D.read b).isNaN with
  | true =>
    obtain ⟨s, t, hr⟩ := isNaN_cases hn
    have hr' : FloatKind.f64.decode b = .nan s t := hr
    refine ⟨Question.cut (.nanConv .f32 b) (w.tape w.drawn (.nanConv .f32 b)), 1, ?_, ?_, nanConv_lt .f32 ..⟩
    · cases u <;> simp [convert, run_underlying hs', run_underlying hd, Conv.floatToFloat, hr', choose, Sem.run, Question.forced, World.drewN]
    · rw [cn_of_nan (nanConv_isNaN ..), cn_of_nan (k := .f64) hn]
      decide +kernel
  | false =>
    have hc : cn .f64 b = b := cn_of_not hn
    rw [hc] at hok ⊢
    refine ⟨S.write (D.read b), 0, ?_, ?_, Ieee.Format.write_lt S _⟩
    · refine run_convert_float_float (P := P) w src dst .f64 .f32 b _ hs hd ?_
      unfold floatToFloatBits
      rw [if_neg (by decide)]
      show (match D.read b with | .nan _ _ => none | .infinity s => some (FloatKind.f32.encode (.infinity s)) | .number s m e => if (FloatKind.f32.decode (FloatKind.f32.encode (.number s m e))).isInfinity = true then none else some (FloatKind.f32.encode (.number s m e))) = _
      rcases hok with h | h | h
      · rw [hn] at h; cases h
      · cases hd : D.read b with
        | nan s t => rw [hd] at hn; simp [Ieee.Datum.isNaN] at hn
        | infinity s => rfl
        | number s m e => rw [hd] at h; simp [Ieee.Datum.isInfinity] at h
      · cases hd : D.read b with
        | nan s t => rw [hd] at hn; simp [Ieee.Datum.isNaN] at hn
        | infinity s => rfl
        | number s m e =>
          rw [hd] at h
          have h2 : (FloatKind.f32.decode (FloatKind.f32.encode (.number s m e))).isInfinity = false := h
          dsimp only
          rw [h2]; rfl
    · rw [cn_of_not (show (FloatKind.f32.format.read (S.write (D.read b))).isNaN = false from write_not_nan S _ hn)]
      unfold nwD; rw [if_neg (by simp [hn])]
theorem wpList_nw {P : Program} {ops : Array Oper} {Q : Exit → Act → World → Prop} {a : Act} {w : World} {rest : List Oper} {dst : Option Tmp} {src to type : TypeId} {x : Operand} {pos : String} {after : Array Edge}
    (hs : (P.underlying src).isSome = true) (hd : P.underlying to = some (.float .f32)) (b : Nat) (hok : nwOk (cn .f64 b)) (hx : a.eval x = .float .f64 b)
    (hK : ∀ r n, cn .f32 r = nwD (cn .f64 b) → r < 4294967296 → wpList P ops Q rest (a.put dst (.float .f32 r)) (w.drewN n)) :
    wpList P ops Q ({ dst := dst, op := .convert src to x, type := type, pos := pos, after := after, guard := none } :: rest) a w := by
  refine wpList_plain rfl fun K hK' => ?_
  obtain ⟨r, n, hrun, hr, hlt⟩ := run_nw (P := P) w src to b hs hd hok
  unfold Oper.wp
  simp [execOp, hx, hrun, Result.andThen]
  exact hK' _ _ (hK r n hr hlt)
theorem sqrt_cn (x : Nat) : D.sqrt (cn .f64 x) = D.sqrt x := by
  cases hn : (D.read x).isNaN with
  | true =>
    rw [cn_of_nan (k := .f64) hn]
    obtain ⟨s, t, hr⟩ := isNaN_cases hn
    obtain ⟨s', t', hr'⟩ := isNaN_cases (qnan_isNaN .f64)
    have hr2 : D.read (qnan .f64) = .nan s' t' := hr'
    unfold Ieee.Format.sqrt
    rw [hr, hr2]; rfl
  | false => rw [cn_of_not (k := .f64) hn]
theorem root_not_nan {n : Nat} {x z : Ieee.Datum} (h : x.root n = some z) : z.isNaN = false := by
  cases x with
  | nan s t => cases h
  | infinity s =>
    cases s
    · simp [Ieee.Datum.root] at h; subst h; rfl
    · simp [Ieee.Datum.root] at h
  | number s m i =>
    unfold Ieee.Datum.root at h
    dsimp only at h
    by_cases h0 : m = 0
    · rw [if_pos h0] at h; cases h; rfl
    · rw [if_neg h0] at h
      cases s
      · rw [if_neg (by decide)] at h; cases h; rfl
      · rw [if_pos rfl] at h; cases h


theorem run_sqrt (x : Nat) (w : World) : ∃ r n, (callFunc 145 #[.float .f64 x]).run Try.prog w = .ok (.value (.float .f64 r)) (w.drewN n) ∧ cn .f64 r = sqD (cn .f64 x) ∧ r < 18446744073709551616 := by
  have e : (callFunc 145 #[.float .f64 x]).run Try.prog w = ((match FloatKind.f64.format.sqrt x with | some r => (pure (.float .f64 r) : Sem Value) | none => do pure (.float .f64 (← choose (.nanBits .f64 x x)))) >>= fun v => pure (Next.value v)).run Try.prog w := by kernel_rfl
  rw [e]
  have hq : sqD (cn .f64 x) = (D.sqrt x).getD (qnan .f64) := by unfold sqD; rw [sqrt_cn]
  cases h : D.sqrt x with
  | some r =>
    have h' : FloatKind.f64.format.sqrt x = some r := h
    refine ⟨r, 0, ?_, ?_, ?_⟩
    · rw [h']; rfl
    · rw [hq, h]
      obtain ⟨z, hz, rfl⟩ := Option.map_eq_some_iff.1 h
      exact cn_of_not (write_not_nan _ _ (root_not_nan hz))
    · obtain ⟨z, hz, rfl⟩ := Option.map_eq_some_iff.1 h
      exact Ieee.Format.write_lt D _
  | none =>
    have h' : FloatKind.f64.format.sqrt x = none := h
    refine ⟨Question.cut (.nanBits .f64 x x) (w.tape w.drawn (.nanBits .f64 x x)), 1, ?_, ?_, nanBits_lt .f64 ..⟩
    · rw [h']; simp [choose, Sem.run, Question.forced, World.drewN]
    · rw [hq, h, cn_of_nan (nanBits_isNaN ..)]; rfl

theorem f_Sqrt (x : Nat) (w : World) : Calls Try.prog 124 #[.float .f64 x] w fun e w' => (∃ r, e = .returned (.float .f64 r) ∧ r < 18446744073709551616 ∧ cn .f64 r = sqD (cn .f64 x)) ∧ Dr w w' := by
  obtain ⟨R, N, hR⟩ : ∃ (R : Nat → World → Nat) (N : Nat → World → Nat), ∀ x wx, (callFunc 145 #[.float .f64 x]).run Try.prog wx = .ok (.value (.float .f64 (R x wx))) (wx.drewN (N x wx)) ∧ cn .f64 (R x wx) = sqD (cn .f64 x) ∧ R x wx < 18446744073709551616 :=
    ⟨fun x wx => Classical.choose (run_sqrt x wx), fun x wx => Classical.choose (Classical.choose_spec (run_sqrt x wx)), fun x wx => Classical.choose_spec (Classical.choose_spec (run_sqrt x wx))⟩
  have hrun := fun x wx => (hR x wx).1
  have HR := Lib.hid (fun x wx => (hR x wx).2)
  clear hR
  go_enter Try.func124, Try.ntmps124
  go_wp2_with fail
  go_ret
  exact ⟨⟨_, rfl, (HR.out _ _).2, (HR.out _ _).1⟩, _, rfl⟩

theorem i_RootNumber (x : Nat) (w : World) : Calls Try.prog 73 #[.float .f32 x] w fun e w' => (∃ r, e = .returned (.float .f32 r) ∧ r < 4294967296 ∧ cn .f32 r = rootF (cn .f32 x)) ∧ Dr w w' := by
  go_enter Try.func73, Try.ntmps73
  go_wp2_with (first
    | (refine wpList_wd (by kernel_rfl) (by kernel_rfl) _ rfl ?_; intro r n hr hlt; have HR := Lib.hid hr; clear hr)
    | (go_at_call 124; refine (f_Sqrt _ _).mono ?_; rintro e w1 ⟨⟨r1, rfl, hr1, hr2⟩, n1, rfl⟩; have HR1 := Lib.hid hr2; clear hr2)
    | (refine wpList_nw (by kernel_rfl) (by kernel_rfl) _ (by rw [HR1.out, HR.out]; exact root_ok _) rfl ?_; intro r2 n2 hr2 hlt2; have HR2 := Lib.hid hr2; clear hr2))
  go_ret
  refine ⟨⟨_, rfl, hlt2, ?_⟩, _, rfl⟩
  rw [HR2.out, HR1.out, HR.out]; rfl

theorem s_l01Narrow (x : Nat) (hok : nwOk (cn .f64 x)) (w : World) : Calls Try.prog 140 #[.float .f64 x] w fun e w' => (∃ r, e = .returned (.float .f32 r) ∧ r < 4294967296 ∧ cn .f32 r = nwD (cn .f64 x)) ∧ Dr w w' := by
  go_enter Try.func140, Try.ntmps140
  go_wp2_with (refine wpList_nw (by kernel_rfl) (by kernel_rfl) _ hok rfl ?_; intro r2 n2 hr2 hlt2; have HR2 := Lib.hid hr2; clear hr2)
  go_ret
  exact ⟨⟨_, rfl, hlt2, HR2.out⟩, _, rfl⟩

theorem s_l01Sqrt (x : Nat) (w : World) : Calls Try.prog 120 #[.float .f32 x] w fun e w' => (∃ r, e = .returned (.float .f32 r) ∧ r < 4294967296 ∧ cn .f32 r = rootF (cn .f32 x)) ∧ Dr w w' := by
  go_enter Try.func120, Try.ntmps120
  go_wp2_with (first
    | (refine wpList_wd (by kernel_rfl) (by kernel_rfl) _ rfl ?_; intro r n hr hlt; have HR := Lib.hid hr; clear hr)
    | (go_at_call 124; refine (f_Sqrt _ _).mono ?_; rintro e w1 ⟨⟨r1, rfl, hr1, hr2⟩, n1, rfl⟩; have HR1 := Lib.hid hr2; clear hr2)
    | (go_at_call 140; refine (s_l01Narrow _ (by rw [HR1.out, HR.out]; exact root_ok _) _).mono ?_; rintro e w1 ⟨⟨r2, rfl, hlt2, hr2⟩, n2, rfl⟩; have HR2 := Lib.hid hr2; clear hr2))
  go_ret
  refine ⟨⟨_, rfl, hlt2, ?_⟩, _, rfl⟩
  rw [HR2.out, HR1.out, HR.out]; rfl

end Go.Proofs.Ytkkomajokdlkeaa

namespace Go.Proofs.Ytkkomajokdlkeaa
set_option linter.unusedSimpArgs false
set_option linter.unusedVariables false
set_option maxRecDepth 100000
set_option maxHeartbeats 4000000
set_option linter.unusedSimpArgs false
set_option linter.unusedVariables false
open Go.RowKit
attribute [local go_sem] run_store_float run_store_complex alloc_drewN setCell_drewN
def k64 : Nat → Nat
  | 0 => 4622945017495814144 | 1 => 4622382067542392832 | 2 => 4621819117588971520 | 3 => 4621256167635550208 | 4 => 4620693217682128896 | 5 => 4619567317775286272 | 6 => 4618441417868443648 | 7 => 4617315517961601024 | 8 => 4616189618054758400 | 9 => 4613937818241073152 | 10 => 4611686018427387904 | 11 => 4607182418800017408 | _ => 0
theorem k64_all : ((List.range 12).all fun i => decide (ar .sub .f64 (cn .f64 (k64 i)) (cn .f64 4607182418800017408) = k64 (i + 1)) && !(Ieee.double.read (k64 (i + 1))).isNaN && decide (cn .f64 (k64 i) = k64 i) && (Ieee.double.order (k64 i) 4607182418800017408 == some .gt || Ieee.double.order (k64 i) 4607182418800017408 == some .eq)) = true := by decide +kernel
def exT (x : Nat) : Nat := ar .quo .f64 (wd x) 4643211215818981376
def exP (t : Nat) : Nat → Nat
  | 0 => 4607182418800017408
  | i + 1 => ar .add .f64 4607182418800017408 (ar .quo .f64 (ar .mul .f64 t (exP t i)) (k64 i))
def exS (p : Nat) : Nat → Nat
  | 0 => p
  | i + 1 => ar .mul .f64 (exS p i) (exS p i)
def expW (x : Nat) : Nat := nwD (exS (exP (exT x) 12) 8)
def nn64 (c : Nat) : Bool := !(Ieee.double.read c).isNaN
/-- No NaN on the way. -/
structure ExOk (x : Nat) : Prop where
  hx : (S.read x).isNaN = false
  gt : (S.order x 1128792064 == some .gt) = false
  lt : (S.order x 3276275712 == some .lt) = false
  w : nn64 (wd x) = true
  t : nn64 (exT x) = true
  m : ∀ i, i < 12 → nn64 (ar .mul .f64 (exT x) (exP (exT x) i)) = true
  q : ∀ i, i < 12 → nn64 (ar .quo .f64 (ar .mul .f64 (exT x) (exP (exT x) i)) (k64 i)) = true
  p : ∀ i, i ≤ 12 → nn64 (exP (exT x) i) = true
  s : ∀ i, i ≤ 8 → nn64 (exS (exP (exT x) 12) i) = true
  e : nwOk (exS (exP (exT x) 12) 8)
theorem nn64_not {c : Nat} (h : nn64 c = true) : (Ieee.double.read c).isNaN = false := by unfold nn64 at h; simpa using h
theorem nn64_cn {c : Nat} (h : nn64 c = true) : cn .f64 c = c := cn_of_not (k := .f64) (nn64_not h)
theorem k64_less : ((List.range 12).all fun i => decide (k64 (i + 1) < k64 i)) = true := by decide +kernel
def wordOf : Value → Nat
  | .float _ c => c
  | _ => 0
theorem k64_end : (Ieee.double.order 0 4607182418800017408 == some .gt || Ieee.double.order 0 4607182418800017408 == some .eq) = false := by decide +kernel

theorem i_ExpNumberW (x : Nat) (h : ExOk x) (w : World) :
    Calls Try.prog 115 #[.float .f32 x] w fun e w' => (∃ r, e = .returned (.float .f32 r) ∧ r < 4294967296 ∧ cn .f32 r = expW x) ∧ Dr w w' := by
  have H := Lib.hid h
  have o1 : (FloatKind.f32.format.order x 1128792064 == some .gt) = false := h.gt
  have o2 : (FloatKind.f32.format.order x 3276275712 == some .lt) = false := h.lt
  have RC := fun w => run_wdxT (P := Try.prog) w 33 45 x (by kernel_rfl) (by kernel_rfl) h.hx
  have RQ := fun t w => run_arx64T (P := Try.prog) .quo (wd x) 4643211215818981376 (exT x) (by rw [nn64_cn h.w, show cn .f64 4643211215818981376 = 4643211215818981376 by decide +kernel]; rfl) (nn64_not h.t) t w
  clear h
  generalize hT : exT x = T at RQ
  have HT := Lib.hid hT
  clear hT
  go_enter Try.func115, Try.ntmps115
  go_wp2_with fail
  go_loopw [5, 4] (fun kk pp wr => ∃ i : Nat, i ≤ 12 ∧ kk = .float .f64 (k64 i) ∧ pp = .float .f64 (exP T i) ∧ ∃ n, wr = w.drewN n) (fun kk _ _ => wordOf kk)
  case atStart => exact ⟨0, by omega, rfl, rfl, 0, rfl⟩
  case round =>
    obtain ⟨i, hi, rfl, rfl, dn, rfl⟩ := hrel
    by_cases hlt : i < 12
    · have hst := List.all_eq_true.1 k64_all i (List.mem_range.2 hlt)
      simp only [Bool.and_eq_true, decide_eq_true_eq, Bool.not_eq_true'] at hst
      obtain ⟨⟨⟨g1, g2⟩, g3⟩, g4⟩ := hst
      have hls := of_decide_eq_true (List.all_eq_true.1 k64_less i (List.mem_range.2 hlt))
      have HLS := Lib.hid hls
      have o3 : (FloatKind.f64.format.order (k64 i) 4607182418800017408 == some .gt || FloatKind.f64.format.order (k64 i) 4607182418800017408 == some .eq) = true := g4
      have h1 := H.out.m i hlt
      have h2 := H.out.q i hlt
      have h3 := H.out.p i hi
      have h4 := H.out.p (i + 1) hlt
      have ht := H.out.t
      have e4 : exP (exT x) (i + 1) = ar .add .f64 4607182418800017408 (ar .quo .f64 (ar .mul .f64 (exT x) (exP (exT x) i)) (k64 i)) := rfl
      rw [HT.out] at h1 h2 h3 h4 e4 ht
      have R1 := fun t w => run_arx64T (P := Try.prog) .mul T (exP T i) _ (by rw [nn64_cn ht, nn64_cn h3]) (nn64_not h1) t w
      have R2 := fun t w => run_arx64T (P := Try.prog) .quo (ar .mul .f64 T (exP T i)) (k64 i) _ (by rw [nn64_cn h1, g3]) (nn64_not h2) t w
      have R3 := fun t w => run_arx64T (P := Try.prog) .add 4607182418800017408 (ar .quo .f64 (ar .mul .f64 T (exP T i)) (k64 i)) (exP T (i + 1)) (by rw [nn64_cn h2, show cn .f64 4607182418800017408 = 4607182418800017408 by decide +kernel]; exact e4.symm) (nn64_not h4) t w
      have R4 := fun t w => run_arx64T (P := Try.prog) .sub (k64 i) 4607182418800017408 (k64 (i + 1)) g1 g2 t w
      clear g1 g2 g3 g4 h1 h2 h3 h4 ht e4 hls RQ RC
      generalize ar .quo .f64 (ar .mul .f64 T (exP T i)) (k64 i) = v2 at *
      generalize ar .mul .f64 T (exP T i) = v1 at *
      generalize hP : exP T (i + 1) = p1 at *
      have HP := Lib.hid hP
      generalize hK : k64 (i + 1) = q1 at *
      have HK := Lib.hid hK
      clear hP hK
      generalize exP T i = p0 at *
      generalize k64 i = q0 at *
      go_wp2_with fail
      exact ⟨⟨i + 1, by omega, by rw [HK.out], by rw [HP.out], _, rfl⟩, HLS.out⟩
    · obtain rfl : i = 12 := by omega
      have o3 : (FloatKind.f64.format.order (k64 12) 4607182418800017408 == some .gt || FloatKind.f64.format.order (k64 12) 4607182418800017408 == some .eq) = false := k64_end
      generalize k64 12 = q0 at *
      obtain ⟨P, hP⟩ : ∃ P, P = exP T 12 := ⟨_, rfl⟩
      rw [← hP]
      have HP := Lib.hid hP
      clear hP
      go_wp2_with fail
      go_loopw [27, 4] (fun ii pp wr => ∃ i : Nat, i ≤ 8 ∧ ii = .int .i64 (i : Int) ∧ pp = .float .f64 (exS P i) ∧ ∃ n, wr = w.drewN n) (fun ii _ _ => 8 - (intOf ii).toNat)
      case atStart => exact ⟨0, by omega, rfl, rfl, _, rfl⟩
      case round =>
        obtain ⟨i, hi, rfl, rfl, dn2, rfl⟩ := hrel
        by_cases hlt2 : i < 8
        · have hji : (i : Int) < 8 := by omega
          have h1 := H.out.s i hi
          have h2 := H.out.s (i + 1) hlt2
          rw [HT.out, ← HP.out] at h1 h2
          have R1 := fun t w => run_arx64T (P := Try.prog) .mul (exS P i) (exS P i) (exS P (i + 1)) (by rw [nn64_cn h1]; rfl) (nn64_not h2) t w
          clear h1 h2 RQ RC
          generalize hS : exS P (i + 1) = s1 at *
          have HS := Lib.hid hS
          clear hS
          generalize exS P i = s0 at *
          go_wp2_with fail
          exact ⟨⟨i + 1, by omega, by go_num, by rw [HS.out], _, rfl⟩, by simp [intOf]; omega⟩
        · obtain rfl : i = 8 := by omega
          have he := H.out.e
          have h1 := H.out.s 8 (by omega)
          have hw : expW x = nwD (exS P 8) := by rw [expW, HT.out, HP.out]
          rw [HT.out, ← HP.out] at he h1
          have HWX := Lib.hid hw
          have HE := Lib.hid (show nwOk (cn .f64 (exS P 8)) by rw [nn64_cn h1]; exact he)
          have HC := Lib.hid (nn64_cn h1)
          clear he h1 hw RQ RC
          generalize exS P 8 = s8 at *
          go_wp2_with (first | (refine wpList_nw (by kernel_rfl) (by kernel_rfl) s8 HE.out rfl ?_; intro r n hr hlt))
          go_ret
          exact ⟨⟨_, rfl, hlt, by rw [hr, HC.out, HWX.out]⟩, Dr.mk _ _⟩

end Go.Proofs.Ytkkomajokdlkeaa
