/- Contracts: square roots. -/
import Derived.Test.YtgonpgfhajfjpaaK6
import Derived.Test.YtgonpgfhajfjpaaFr
namespace Go.Proofs.Ytgonpgfhajfjpaa
set_option linter.unusedSimpArgs false
set_option linter.unusedVariables false
set_option maxRecDepth 100000
set_option maxHeartbeats 4000000
open Go.RowKit
attribute [local go_sem] run_store_float run_store_complex alloc_drewN setCell_drewN

theorem run_nw {P : Program} (w : World) (src dst : TypeId) (b : Nat) (hs : (P.underlying src).isSome = true) (hd : P.underlying dst = some (.float .f32)) (hok : nwOk (cn .f64 b)) :
    ∃ r n, (convert src dst (.float .f64 b)).run P w = .ok (.float .f32 r) (w.drewN n) ∧ cn .f32 r = nwD (cn .f64 b) ∧ r < 4294967296 := by
  obtain ⟨u, hs'⟩ := Option.isSome_iff_exists.1 hs
  cases hn : (D.read b).isNaN with
  | true =>
    obtain ⟨s, t, hr⟩ := isNaN_cases hn
    have hr' : FloatKind.f64.decode b = .nan s t := hr
    refine ⟨Question.cut (.nanConv .f32 b) (w.tape w.drawn (.nanConv .f32 b)), 1, ?_, ?_, nanConv_lt .f32 ..⟩
    · cases u <;> simp [convert, run_underlying hs', run_underlying hd, Conv.floatToFloat, hr', choose, Sem.run, Question.forced, World.drewN]
    · rw [cn_of_nan (nanConv_isNaN ..), cn_of_nan (k := .f64) hn]
      decide +kernel
  | false =>
    have hc : cn .f64 b = b := cn_of_not hn
    rw [hc] at hok ⊢
    refine ⟨S.write (D.read b), 0, ?_, ?_, Ieee.Format.write_lt S _⟩
    · refine run_convert_float_float (P := P) w src dst .f64 .f32 b _ hs hd ?_
      unfold floatToFloatBits
      rw [if_neg (by decide)]
      show (match D.read b with | .nan _ _ => none | .infinity s => some (FloatKind.f32.encode (.infinity s)) | .number s m e => if (FloatKind.f32.decode (FloatKind.f32.encode (.number s m e))).isInfinity = true then none else some (FloatKind.f32.encode (.number s m e))) = _
      rcases hok with h | h | h
      · rw [hn] at h; cases h
      · cases hd : D.read b with
        | nan s t => rw [hd] at hn; simp [Ieee.Datum.isNaN] at hn
        | infinity s => rfl
        | number s m e => rw [hd] at h; simp [Ieee.Datum.isInfinity] at h
      · cases hd : D.read b with
        | nan s t => rw [hd] at hn; simp [Ieee.Datum.isNaN] at hn
        | infinity s => rfl
        | number s m e =>
          rw [hd] at h
          have h2 : (FloatKind.f32.decode (FloatKind.f32.encode (.number s m e))).isInfinity = false := h
          dsimp only
          rw [h2]; rfl
    · rw [cn_of_not (show (FloatKind.f32.format.read (S.write (D.read b))).isNaN = false from write_not_nan S _ hn)]
      unfold nwD; rw [if_neg (by simp [hn])]
theorem wpList_nw {P : Program} {ops : Array Oper} {Q : Exit → Act → World → Prop} {a : Act} {w : World} {rest : List Oper} {dst : Option Tmp} {src to type : TypeId} {x : Operand} {pos : String} {after : Array Edge}
    (hs : (P.underlying src).isSome = true) (hd : P.underlying to = some (.float .f32)) (b : Nat) (hok : nwOk (cn .f64 b)) (hx : a.eval x = .float .f64 b)
    (hK : ∀ r n, cn .f32 r = nwD (cn .f64 b) → r < 4294967296 → wpList P ops Q rest (a.put dst (.float .f32 r)) (w.drewN n)) :
    wpList P ops Q ({ dst := dst, op := .convert src to x, type := type, pos := pos, after := after, guard := none } :: rest) a w := by
  refine wpList_plain rfl fun K hK' => ?_
  obtain ⟨r, n, hrun, hr, hlt⟩ := run_nw (P := P) w src to b hs hd hok
  unfold Oper.wp
  simp [execOp, hx, hrun, Result.andThen]
  exact hK' _ _ (hK r n hr hlt)
theorem sqrt_cn (x : Nat) : D.sqrt (cn .f64 x) = D.sqrt x := by
  cases hn : (D.read x).isNaN with
  | true =>
    rw [cn_of_nan (k := .f64) hn]
    obtain ⟨s, t, hr⟩ := isNaN_cases hn
    obtain ⟨s', t', hr'⟩ := isNaN_cases (qnan_isNaN .f64)
    have hr2 : D.read (qnan .f64) = .nan s' t' := hr'
    unfold Ieee.Format.sqrt
    rw [hr, hr2]; rfl
  | false => rw [cn_of_not (k := .f64) hn]
theorem root_not_nan {n : Nat} {x z : Ieee.Datum} (h : x.root n = some z) : z.isNaN = false := by
  cases x with
  | nan s t => cases h
  | infinity s =>
    cases s
    · simp [Ieee.Datum.root] at h; subst h; rfl
    · simp [Ieee.Datum.root] at h
  | number s m i =>
    unfold Ieee.Datum.root at h
    dsimp only at h
    by_cases h0 : m = 0
    · rw [if_pos h0] at h; cases h; rfl
    · rw [if_neg h0] at h
      cases s
      · rw [if_neg (by decide)] at h; cases h; rfl
      · rw [if_pos rfl] at h; cases h


theorem run_sqrt (x : Nat) (w : World) : ∃ r n, (callFunc 47 #[.float .f64 x]).run Try.prog w = .ok (.value (.float .f64 r)) (w.drewN n) ∧ cn .f64 r = sqD (cn .f64 x) ∧ r < 18446744073709551616 := by
  have e : (callFunc 47 #[.float .f64 x]).run Try.prog w = ((match FloatKind.f64.format.sqrt x with | some r => (pure (.float .f64 r) : Sem Value) | none => do pure (.float .f64 (← choose (.nanBits .f64 x x)))) >>= fun v => pure (Next.value v)).run Try.prog w := by kernel_rfl
  rw [e]
  have hq : sqD (cn .f64 x) = (D.sqrt x).getD (qnan .f64) := by unfold sqD; rw [sqrt_cn]
  cases h : D.sqrt x with
  | some r =>
    have h' : FloatKind.f64.format.sqrt x = some r := h
    refine ⟨r, 0, ?_, ?_, ?_⟩
    · rw [h']; rfl
    · rw [hq, h]
      obtain ⟨z, hz, rfl⟩ := Option.map_eq_some_iff.1 h
      exact cn_of_not (write_not_nan _ _ (root_not_nan hz))
    · obtain ⟨z, hz, rfl⟩ := Option.map_eq_some_iff.1 h
      exact Ieee.Format.write_lt D _
  | none =>
    have h' : FloatKind.f64.format.sqrt x = none := h
    refine ⟨Question.cut (.nanBits .f64 x x) (w.tape w.drawn (.nanBits .f64 x x)), 1, ?_, ?_, nanBits_lt .f64 ..⟩
    · rw [h']; simp [choose, Sem.run, Question.forced, World.drewN]
    · rw [hq, h, cn_of_nan (nanBits_isNaN ..)]; rfl

theorem f_Sqrt (x : Nat) (w : World) : Calls Try.prog 41 #[.float .f64 x] w fun e w' => (∃ r, e = .returned (.float .f64 r) ∧ r < 18446744073709551616 ∧ cn .f64 r = sqD (cn .f64 x)) ∧ Dr w w' := by
  obtain ⟨R, N, hR⟩ : ∃ (R : Nat → World → Nat) (N : Nat → World → Nat), ∀ x wx, (callFunc 47 #[.float .f64 x]).run Try.prog wx = .ok (.value (.float .f64 (R x wx))) (wx.drewN (N x wx)) ∧ cn .f64 (R x wx) = sqD (cn .f64 x) ∧ R x wx < 18446744073709551616 :=
    ⟨fun x wx => Classical.choose (run_sqrt x wx), fun x wx => Classical.choose (Classical.choose_spec (run_sqrt x wx)), fun x wx => Classical.choose_spec (Classical.choose_spec (run_sqrt x wx))⟩
  have hrun := fun x wx => (hR x wx).1
  have HR := Lib.hid (fun x wx => (hR x wx).2)
  clear hR
  go_enter Try.func41, Try.ntmps41
  go_wp2_with fail
  go_ret
  exact ⟨⟨_, rfl, (HR.out _ _).2, (HR.out _ _).1⟩, _, rfl⟩

theorem i_RootNumber (x : Nat) (w : World) : Calls Try.prog 37 #[.float .f32 x] w fun e w' => (∃ r, e = .returned (.float .f32 r) ∧ r < 4294967296 ∧ cn .f32 r = rootF (cn .f32 x)) ∧ Dr w w' := by
  go_enter Try.func37, Try.ntmps37
  go_wp2_with (first
    | (refine wpList_wd (by kernel_rfl) (by kernel_rfl) _ rfl ?_; intro r n hr hlt; have HR := Lib.hid hr; clear hr)
    | (go_at_call 41; refine (f_Sqrt _ _).mono ?_; rintro e w1 ⟨⟨r1, rfl, hr1, hr2⟩, n1, rfl⟩; have HR1 := Lib.hid hr2; clear hr2)
    | (refine wpList_nw (by kernel_rfl) (by kernel_rfl) _ (by rw [HR1.out, HR.out]; exact root_ok _) rfl ?_; intro r2 n2 hr2 hlt2; have HR2 := Lib.hid hr2; clear hr2))
  go_ret
  refine ⟨⟨_, rfl, hlt2, ?_⟩, _, rfl⟩
  rw [HR2.out, HR1.out, HR.out]; rfl

theorem s_l01Narrow (x : Nat) (hok : nwOk (cn .f64 x)) (w : World) : Calls Try.prog 40 #[.float .f64 x] w fun e w' => (∃ r, e = .returned (.float .f32 r) ∧ r < 4294967296 ∧ cn .f32 r = nwD (cn .f64 x)) ∧ Dr w w' := by
  go_enter Try.func40, Try.ntmps40
  go_wp2_with (refine wpList_nw (by kernel_rfl) (by kernel_rfl) _ hok rfl ?_; intro r2 n2 hr2 hlt2; have HR2 := Lib.hid hr2; clear hr2)
  go_ret
  exact ⟨⟨_, rfl, hlt2, HR2.out⟩, _, rfl⟩

theorem s_l01Sqrt (x : Nat) (w : World) : Calls Try.prog 29 #[.float .f32 x] w fun e w' => (∃ r, e = .returned (.float .f32 r) ∧ r < 4294967296 ∧ cn .f32 r = rootF (cn .f32 x)) ∧ Dr w w' := by
  go_enter Try.func29, Try.ntmps29
  go_wp2_with (first
    | (refine wpList_wd (by kernel_rfl) (by kernel_rfl) _ rfl ?_; intro r n hr hlt; have HR := Lib.hid hr; clear hr)
    | (go_at_call 41; refine (f_Sqrt _ _).mono ?_; rintro e w1 ⟨⟨r1, rfl, hr1, hr2⟩, n1, rfl⟩; have HR1 := Lib.hid hr2; clear hr2)
    | (go_at_call 40; refine (s_l01Narrow _ (by rw [HR1.out, HR.out]; exact root_ok _) _).mono ?_; rintro e w1 ⟨⟨r2, rfl, hlt2, hr2⟩, n2, rfl⟩; have HR2 := Lib.hid hr2; clear hr2))
  go_ret
  refine ⟨⟨_, rfl, hlt2, ?_⟩, _, rfl⟩
  rw [HR2.out, HR1.out, HR.out]; rfl

end Go.Proofs.Ytgonpgfhajfjpaa
