/- Contracts: series, sums and means. -/
import Derived.Test.YtkkomajokdlkeaaQ9
import Derived.Test.YtkkomajokdlkeaaQ11
namespace Go.Proofs.Ytkkomajokdlkeaa
set_option linter.unusedSimpArgs false
set_option linter.unusedVariables false
set_option maxRecDepth 100000
set_option maxHeartbeats 4000000
open Go.RowKit
attribute [local go_sem] run_store_float run_store_complex alloc_drewN setCell_drewN

/-- A series: 1 to 96 finite numbers. -/
def series (cs : List Nat) : Bool := decide (1 ≤ cs.length) && decide (cs.length ≤ 96) && allFin cs
def meanL (cs : List Nat) : Nat := divF (sumL cs) (fI cs.length)
theorem SL.slice {w : World} {v : Value} {cs : List Nat} (h : SL w v cs) : ∃ ao c, v = .slice ao cs.length c ∧ cs.length ≤ 9223372036854775807 := by
  obtain ⟨ao, c, xs, rfl, rfl, h3, _⟩ := h
  exact ⟨ao, c, by simp, by simp; omega⟩
theorem allFin_take {cs : List Nat} {k : Nat} (hk : k < cs.length) (h1 : allFin (cs.take k) = true) (h2 : fin cs[k] = true) : allFin (cs.take (k + 1)) = true := by
  unfold allFin at *
  rw [take_snoc cs k hk, List.all_append, h1]; simp [h2]
theorem allFin_no {cs : List Nat} {k : Nat} (hk : k < cs.length) (h2 : fin cs[k] = false) : allFin cs = false := by
  unfold allFin
  rw [List.all_eq_false]
  exact ⟨cs[k], List.getElem_mem hk, by simp [h2]⟩


theorem s_l02Finite (v : Value) (cs : List Nat) (w : World) (hv : SL w v cs) :
    Calls Try.prog 64 #[v] w fun e w' => e = .returned (.bool (allFin cs)) ∧ Dr w w' := by
  obtain ⟨ao, c, xs, rfl, hcs, hlen, hcell⟩ := hv
  have hl : xs.length = cs.length := by rw [← hcs]; simp
  have HL := Lib.hid hl
  have HCS := Lib.hid hcs
  have HC := Lib.hid hcell
  clear hcell hcs hl
  go_enter Try.func64, Try.ntmps64
  go_wp2_with fail
  go_loopw [3] (fun i wr => ∃ k : Nat, k ≤ xs.length ∧ i = .int .i64 k ∧ Hid (allFin (cs.take k) = true) ∧ ∃ d, wr = w.drewN d) (fun i _ => xs.length - (intOf i).toNat)
  case atStart => exact ⟨0, Nat.zero_le _, rfl, by simp [Hid, allFin], 0, rfl⟩
  case round =>
    obtain ⟨k, hk, rfl, H1, d, rfl⟩ := hrel
    by_cases hlt : k < xs.length
    · obtain ⟨b, off, rfl, hb, hc⟩ := HC.out k hlt
      have hlt2 : k < cs.length := by have := HL.out; omega
      have hk2 : cn .f32 xs[k] = cs[k] := by simp [← HCS.out]
      cases hp : fin (cn .f32 xs[k])
      all_goals
        have HP := Lib.hid hp
        have HK := Lib.hid hk2
        clear hp hk2
        go_wp2_with (go_at_call 69; refine (s_l01Finite _ _).mono ?_; rintro e w1 ⟨rfl, n, rfl⟩; rw [HP.out])
      · go_ret
        refine ⟨ret_bool ?_, _, rfl⟩
        rw [allFin_no hlt2 (by rw [← HK.out]; exact HP.out)]
      · refine ⟨⟨k + 1, by omega, by go_num, ?_, _, rfl⟩, by simp [intOf]; omega⟩
        exact allFin_take hlt2 H1.out (by rw [← HK.out]; exact HP.out)
    · go_wp2_with fail
      go_ret
      refine ⟨ret_bool ?_, _, rfl⟩
      have h1 := H1.out
      rw [List.take_of_length_le (by have := HL.out; omega)] at h1
      exact h1.symm


theorem s_l02Series (v : Value) (cs : List Nat) (w : World) (hv : SL w v cs) :
    Calls Try.prog 65 #[v] w fun e w' => e = .returned (.bool (series cs)) ∧ Dr w w' := by
  obtain ⟨ao, c, rfl, hlen⟩ := hv.slice
  by_cases h1 : 1 ≤ cs.length
  all_goals
    by_cases h2 : cs.length ≤ 96
    all_goals
      have a1 : (1 : Int) ≤ (cs.length : Int) ↔ 1 ≤ cs.length := by omega
      go_enter Try.func65, Try.ntmps65
      go_wp2_with (go_at_call 64; refine (s_l02Finite _ cs _ hv).mono ?_; rintro e w1 ⟨rfl, n, rfl⟩)
      all_goals
        go_ret
        refine ⟨ret_bool ?_, by first | exact Dr.refl _ | exact Dr.mk _ _⟩
        simp [series, h1, h2]

theorem i_IsSeries (v : Value) (cs : List Nat) (w : World) (hv : SL w v cs) :
    Calls Try.prog 60 #[v] w fun e w' => e = .returned (.bool (series cs)) ∧ Dr w w' := by
  obtain ⟨ao, c, rfl, hlen⟩ := hv.slice
  by_cases h1 : 1 ≤ cs.length
  all_goals
    by_cases h2 : cs.length ≤ 96
    all_goals
      have a1 : (1 : Int) ≤ (cs.length : Int) ↔ 1 ≤ cs.length := by omega
      go_enter Try.func60, Try.ntmps60
      go_wp2_with (go_at_call 81; refine (i_areFinite _ cs _ hv).mono ?_; rintro e w1 ⟨rfl, n, rfl⟩)
      all_goals
        go_ret
        refine ⟨ret_bool ?_, by first | exact Dr.refl _ | exact Dr.mk _ _⟩
        simp [series, h1, h2]

theorem i_addUp (v : Value) (cs : List Nat) (w : World) (hv : SL w v cs) :
    Calls Try.prog 116 #[v] w fun e w' => (∃ r, e = .returned (.float .f32 r) ∧ r < 4294967296 ∧ cn .f32 r = sumL cs) ∧ ∃ n, w.drewN n = w' := by
  obtain ⟨ao, c, xs, rfl, rfl, hlen, hcell⟩ := hv
  have HC := Lib.hid hcell
  clear hcell
  go_enter Try.func116, Try.ntmps116
  go_wp2_with fail
  go_loopw [3, 8] (fun s i wr => ∃ k : Nat, k ≤ xs.length ∧ i = .int .i64 k ∧ (∃ r, s = .float .f32 r ∧ r < 4294967296 ∧ Hid (cn .f32 r = sumL ((xs.map (cn .f32)).take k))) ∧ ∃ d, wr = w.drewN d) (fun _ i _ => xs.length - (intOf i).toNat)
  case atStart => exact ⟨0, Nat.zero_le _, rfl, ⟨0, rfl, by omega, by rw [List.take_zero]; exact cn0⟩, 0, rfl⟩
  case round =>
    obtain ⟨k, hk, rfl, ⟨r, rfl, hr0, hr⟩, d, rfl⟩ := hrel
    by_cases hlt : k < xs.length
    · obtain ⟨b, off, rfl, hb, hc⟩ := HC.out k hlt
      go_wp2_with (refine wpList_ar .f32 _ _ rfl rfl rfl ?_; intro r1 n1 hr1 hlt1)
      refine ⟨⟨k + 1, by omega, by go_num, ⟨r1, rfl, hlt1, ?_⟩, _, rfl⟩, by simp [intOf]; omega⟩
      show _ = _
      rw [take_map_snoc _ _ _ hlt, sumL_snoc, hr1, hr.out]; rfl
    · go_wp2_with fail
      go_ret
      refine ⟨⟨r, rfl, hr0, ?_⟩, _, rfl⟩
      rw [hr.out, List.take_of_length_le (by simp; omega)]

theorem s_l07Sum (v : Value) (cs : List Nat) (w : World) (hv : SL w v cs) :
    Calls Try.prog 134 #[v] w fun e w' => (∃ r, e = .returned (.float .f32 r) ∧ r < 4294967296 ∧ cn .f32 r = sumL cs) ∧ ∃ n, w.drewN n = w' := by
  obtain ⟨ao, c, xs, rfl, rfl, hlen, hcell⟩ := hv
  have HC := Lib.hid hcell
  clear hcell
  go_enter Try.func134, Try.ntmps134
  go_wp2_with fail
  go_loopw [3, 7] (fun s i wr => ∃ k : Nat, k ≤ xs.length ∧ i = .int .i64 k ∧ (∃ r, s = .float .f32 r ∧ r < 4294967296 ∧ Hid (cn .f32 r = sumL ((xs.map (cn .f32)).take k))) ∧ ∃ d, wr = w.drewN d) (fun _ i _ => xs.length - (intOf i).toNat)
  case atStart => exact ⟨0, Nat.zero_le _, rfl, ⟨0, rfl, by omega, by rw [List.take_zero]; exact cn0⟩, 0, rfl⟩
  case round =>
    obtain ⟨k, hk, rfl, ⟨r, rfl, hr0, hr⟩, d, rfl⟩ := hrel
    by_cases hlt : k < xs.length
    · obtain ⟨b, off, rfl, hb, hc⟩ := HC.out k hlt
      go_wp2_with (refine wpList_ar .f32 _ _ rfl rfl rfl ?_; intro r1 n1 hr1 hlt1)
      refine ⟨⟨k + 1, by omega, by go_num, ⟨r1, rfl, hlt1, ?_⟩, _, rfl⟩, by simp [intOf]; omega⟩
      show _ = _
      rw [take_map_snoc _ _ _ hlt, sumL_snoc, hr1, hr.out]; rfl
    · go_wp2_with fail
      go_ret
      refine ⟨⟨r, rfl, hr0, ?_⟩, _, rfl⟩
      rw [hr.out, List.take_of_length_le (by simp; omega)]

theorem i_mean (v : Value) (cs : List Nat) (w : World) (hv : SL w v cs) :
    Calls Try.prog 75 #[v] w fun e w' => (∃ r, e = .returned (.float .f32 r) ∧ r < 4294967296 ∧ cn .f32 r = meanL cs) ∧ ∃ n, w.drewN n = w' := by
  obtain ⟨ao, c, rfl, hlen⟩ := hv.slice
  go_enter Try.func75, Try.ntmps75
  go_wp2_with (first | (go_at_call 116; refine (i_addUp _ cs _ hv).mono ?_; rintro e w1 ⟨⟨r, rfl, hr, hs⟩, n, rfl⟩; have HS := Lib.hid hs; clear hs) | (refine wpList_ar .f32 _ _ rfl rfl rfl ?_; intro r1 n1 hr1 hlt1; have HR := Lib.hid hr1; clear hr1))
  go_ret
  refine ⟨⟨_, rfl, by assumption, ?_⟩, _, rfl⟩
  rw [HR.out, HS.out]
  show divF _ (cn .f32 (floatOfInt .f32 _)) = _
  rw [show cn .f32 (floatOfInt .f32 (cs.length : Int)) = fI cs.length from cn_fI _]; rfl

theorem i_ifAll (v : Value) (cs : List Nat) (w : World) (hv : SL w v cs) :
    Calls Try.prog 76 #[v] w fun e w' => GV v cs e ∧ Dr w w' := by
  cases hp : allFin cs
  all_goals
    have HP := Lib.hid hp
    clear hp
    go_enter Try.func76, Try.ntmps76
    go_wp2_with (go_at_call 81; refine (i_areFinite _ cs _ hv).mono ?_; rintro e w1 ⟨rfl, n, rfl⟩; rw [HP.out])
    go_ret2
    exact ⟨⟨_, _, rfl, by rw [HP.out]; rfl, HP.out.symm⟩, Dr.mk _ _⟩

theorem i_isForth (n : Int) (w : World) : Calls Try.prog 78 #[.int .i64 n] w fun e w' => e = .returned (.bool (inB n 0 32)) ∧ Dr w w' := by
  go_enter Try.func78, Try.ntmps78
  go_wp2_with (go_at_call 56; refine (i_within _ _ _ _).mono ?_; rintro e w1 ⟨rfl, n, rfl⟩)
  go_ret
  exact ⟨rfl, _, rfl⟩

theorem i_isPeriodOf (v : Value) (cs : List Nat) (p : Int) (w : World) (hv : SL w v cs) :
    Calls Try.prog 74 #[v, .int .i64 p] w fun e w' => e = .returned (.bool (series cs && inB p 1 cs.length)) ∧ Dr w w' := by
  obtain ⟨ao, c, rfl, hlen⟩ := hv.slice
  cases hp : series cs
  all_goals
    have HP := Lib.hid hp
    clear hp
    go_enter Try.func74, Try.ntmps74
    go_wp2_with (first | (go_at_call 60; refine (i_IsSeries _ cs _ hv).mono ?_; rintro e w1 ⟨rfl, n, rfl⟩; rw [HP.out]) | (go_at_call 56; refine (i_within _ _ _ _).mono ?_; rintro e w1 ⟨rfl, n, rfl⟩))
    go_ret
    exact ⟨rfl, _, rfl⟩

end Go.Proofs.Ytkkomajokdlkeaa

namespace Go.Proofs.Ytkkomajokdlkeaa
set_option linter.unusedSimpArgs false
set_option linter.unusedVariables false
set_option maxRecDepth 100000
set_option maxHeartbeats 4000000
open Go.RowKit
attribute [local go_sem] run_store_float run_store_complex alloc_drewN setCell_drewN

theorem run_nw {P : Program} (w : World) (src dst : TypeId) (b : Nat) (hs : (P.underlying src).isSome = true) (hd : P.underlying dst = some (.float .f32)) (hok : nwOk (cn .f64 b)) :
    ∃ r n, (convert src dst (.float .f64 b)).run P w = .ok (.float .f32 r) (w.drewN n) ∧ cn .f32 r = nwD (cn .f64 b) ∧ r < 4294967296 := by
  obtain ⟨u, hs'⟩ := Option.isSome_iff_exists.1 hs
  cases hn : (D.read b).isNaN with
  | true =>
    obtain ⟨s, t, hr⟩ := isNaN_cases hn
    have hr' : FloatKind.f64.decode b = .nan s t := hr
    refine ⟨Question.cut (.nanConv .f32 b) (w.tape w.drawn (.nanConv .f32 b)), 1, ?_, ?_, nanConv_lt .f32 ..⟩
    · cases u <;> simp [convert, run_underlying hs', run_underlying hd, Conv.floatToFloat, hr', choose, Sem.run, Question.forced, World.drewN]
    · rw [cn_of_nan (nanConv_isNaN ..), cn_of_nan (k := .f64) hn]
      decide +kernel
  | false =>
    have hc : cn .f64 b = b := cn_of_not hn
    rw [hc] at hok ⊢
    refine ⟨S.write (D.read b), 0, ?_, ?_, Ieee.Format.write_lt S _⟩
    · refine run_convert_float_float (P := P) w src dst .f64 .f32 b _ hs hd ?_
      unfold floatToFloatBits
      rw [if_neg (by decide)]
      show (match D.read b with | .nan _ _ => none | .infinity s => some (FloatKind.f32.encode (.infinity s)) | .number s m e => if (FloatKind.f32.decode (FloatKind.f32.encode (.number s m e))).isInfinity = true then none else some (FloatKind.f32.encode (.number s m e))) = _
      rcases hok with h | h | h
      · rw [hn] at h; cases h
      · cases hd : D.read b with
        | nan s t => rw [hd] at hn; simp [Ieee.Datum.isNaN] at hn
        | infinity s => rfl
        | number s m e => rw [hd] at h; simp [Ieee.Datum.isInfinity] at h
      · cases hd : D.read b with
        | nan s t => rw [hd] at hn; simp [Ieee.Datum.isNaN] at hn
        | infinity s => rfl
        | number s m e =>
          rw [hd] at h
          have h2 : (FloatKind.f32.decode (FloatKind.f32.encode (.number s m e))).isInfinity = false := h
          dsimp only
          rw [h2]; rfl
    · rw [cn_of_not (show (FloatKind.f32.format.read (S.write (D.read b))).isNaN = false from write_not_nan S _ hn)]
      unfold nwD; rw [if_neg (by simp [hn])]
theorem wpList_nw {P : Program} {ops : Array Oper} {Q : Exit → Act → World → Prop} {a : Act} {w : World} {rest : List Oper} {dst : Option Tmp} {src to type : TypeId} {x : Operand} {pos : String} {after : Array Edge}
    (hs : (P.underlying src).isSome = true) (hd : P.underlying to = some (.float .f32)) (b : Nat) (hok : nwOk (cn .f64 b)) (hx : a.eval x = .float .f64 b)
    (hK : ∀ r n, cn .f32 r = nwD (cn .f64 b) → r < 4294967296 → wpList P ops Q rest (a.put dst (.float .f32 r)) (w.drewN n)) :
    wpList P ops Q ({ dst := dst, op := .convert src to x, type := type, pos := pos, after := after, guard := none } :: rest) a w := by
  refine wpList_plain rfl fun K hK' => ?_
  obtain ⟨r, n, hrun, hr, hlt⟩ := run_nw (P := P) w src to b hs hd hok
  unfold Oper.wp
  simp [execOp, hx, hrun, Result.andThen]
  exact hK' _ _ (hK r n hr hlt)
theorem sqrt_cn (x : Nat) : D.sqrt (cn .f64 x) = D.sqrt x := by
  cases hn : (D.read x).isNaN with
  | true =>
    rw [cn_of_nan (k := .f64) hn]
    obtain ⟨s, t, hr⟩ := isNaN_cases hn
    obtain ⟨s', t', hr'⟩ := isNaN_cases (qnan_isNaN .f64)
    have hr2 : D.read (qnan .f64) = .nan s' t' := hr'
    unfold Ieee.Format.sqrt
    rw [hr, hr2]; rfl
  | false => rw [cn_of_not (k := .f64) hn]
theorem root_not_nan {n : Nat} {x z : Ieee.Datum} (h : x.root n = some z) : z.isNaN = false := by
  cases x with
  | nan s t => cases h
  | infinity s =>
    cases s
    · simp [Ieee.Datum.root] at h; subst h; rfl
    · simp [Ieee.Datum.root] at h
  | number s m i =>
    unfold Ieee.Datum.root at h
    dsimp only at h
    by_cases h0 : m = 0
    · rw [if_pos h0] at h; cases h; rfl
    · rw [if_neg h0] at h
      cases s
      · rw [if_neg (by decide)] at h; cases h; rfl
      · rw [if_pos rfl] at h; cases h


theorem run_sqrt (x : Nat) (w : World) : ∃ r n, (callFunc 145 #[.float .f64 x]).run Try.prog w = .ok (.value (.float .f64 r)) (w.drewN n) ∧ cn .f64 r = sqD (cn .f64 x) ∧ r < 18446744073709551616 := by
  have e : (callFunc 145 #[.float .f64 x]).run Try.prog w = ((match FloatKind.f64.format.sqrt x with | some r => (pure (.float .f64 r) : Sem Value) | none => do pure (.float .f64 (← choose (.nanBits .f64 x x)))) >>= fun v => pure (Next.value v)).run Try.prog w := by kernel_rfl
  rw [e]
  have hq : sqD (cn .f64 x) = (D.sqrt x).getD (qnan .f64) := by unfold sqD; rw [sqrt_cn]
  cases h : D.sqrt x with
  | some r =>
    have h' : FloatKind.f64.format.sqrt x = some r := h
    refine ⟨r, 0, ?_, ?_, ?_⟩
    · rw [h']; rfl
    · rw [hq, h]
      obtain ⟨z, hz, rfl⟩ := Option.map_eq_some_iff.1 h
      exact cn_of_not (write_not_nan _ _ (root_not_nan hz))
    · obtain ⟨z, hz, rfl⟩ := Option.map_eq_some_iff.1 h
      exact Ieee.Format.write_lt D _
  | none =>
    have h' : FloatKind.f64.format.sqrt x = none := h
    refine ⟨Question.cut (.nanBits .f64 x x) (w.tape w.drawn (.nanBits .f64 x x)), 1, ?_, ?_, nanBits_lt .f64 ..⟩
    · rw [h']; simp [choose, Sem.run, Question.forced, World.drewN]
    · rw [hq, h, cn_of_nan (nanBits_isNaN ..)]; rfl

theorem f_Sqrt (x : Nat) (w : World) : Calls Try.prog 124 #[.float .f64 x] w fun e w' => (∃ r, e = .returned (.float .f64 r) ∧ r < 18446744073709551616 ∧ cn .f64 r = sqD (cn .f64 x)) ∧ Dr w w' := by
  obtain ⟨R, N, hR⟩ : ∃ (R : Nat → World → Nat) (N : Nat → World → Nat), ∀ x wx, (callFunc 145 #[.float .f64 x]).run Try.prog wx = .ok (.value (.float .f64 (R x wx))) (wx.drewN (N x wx)) ∧ cn .f64 (R x wx) = sqD (cn .f64 x) ∧ R x wx < 18446744073709551616 :=
    ⟨fun x wx => Classical.choose (run_sqrt x wx), fun x wx => Classical.choose (Classical.choose_spec (run_sqrt x wx)), fun x wx => Classical.choose_spec (Classical.choose_spec (run_sqrt x wx))⟩
  have hrun := fun x wx => (hR x wx).1
  have HR := Lib.hid (fun x wx => (hR x wx).2)
  clear hR
  go_enter Try.func124, Try.ntmps124
  go_wp2_with fail
  go_ret
  exact ⟨⟨_, rfl, (HR.out _ _).2, (HR.out _ _).1⟩, _, rfl⟩

theorem i_RootNumber (x : Nat) (w : World) : Calls Try.prog 73 #[.float .f32 x] w fun e w' => (∃ r, e = .returned (.float .f32 r) ∧ r < 4294967296 ∧ cn .f32 r = rootF (cn .f32 x)) ∧ Dr w w' := by
  go_enter Try.func73, Try.ntmps73
  go_wp2_with (first
    | (refine wpList_wd (by kernel_rfl) (by kernel_rfl) _ rfl ?_; intro r n hr hlt; have HR := Lib.hid hr; clear hr)
    | (go_at_call 124; refine (f_Sqrt _ _).mono ?_; rintro e w1 ⟨⟨r1, rfl, hr1, hr2⟩, n1, rfl⟩; have HR1 := Lib.hid hr2; clear hr2)
    | (refine wpList_nw (by kernel_rfl) (by kernel_rfl) _ (by rw [HR1.out, HR.out]; exact root_ok _) rfl ?_; intro r2 n2 hr2 hlt2; have HR2 := Lib.hid hr2; clear hr2))
  go_ret
  refine ⟨⟨_, rfl, hlt2, ?_⟩, _, rfl⟩
  rw [HR2.out, HR1.out, HR.out]; rfl

theorem s_l01Narrow (x : Nat) (hok : nwOk (cn .f64 x)) (w : World) : Calls Try.prog 140 #[.float .f64 x] w fun e w' => (∃ r, e = .returned (.float .f32 r) ∧ r < 4294967296 ∧ cn .f32 r = nwD (cn .f64 x)) ∧ Dr w w' := by
  go_enter Try.func140, Try.ntmps140
  go_wp2_with (refine wpList_nw (by kernel_rfl) (by kernel_rfl) _ hok rfl ?_; intro r2 n2 hr2 hlt2; have HR2 := Lib.hid hr2; clear hr2)
  go_ret
  exact ⟨⟨_, rfl, hlt2, HR2.out⟩, _, rfl⟩

theorem s_l01Sqrt (x : Nat) (w : World) : Calls Try.prog 120 #[.float .f32 x] w fun e w' => (∃ r, e = .returned (.float .f32 r) ∧ r < 4294967296 ∧ cn .f32 r = rootF (cn .f32 x)) ∧ Dr w w' := by
  go_enter Try.func120, Try.ntmps120
  go_wp2_with (first
    | (refine wpList_wd (by kernel_rfl) (by kernel_rfl) _ rfl ?_; intro r n hr hlt; have HR := Lib.hid hr; clear hr)
    | (go_at_call 124; refine (f_Sqrt _ _).mono ?_; rintro e w1 ⟨⟨r1, rfl, hr1, hr2⟩, n1, rfl⟩; have HR1 := Lib.hid hr2; clear hr2)
    | (go_at_call 140; refine (s_l01Narrow _ (by rw [HR1.out, HR.out]; exact root_ok _) _).mono ?_; rintro e w1 ⟨⟨r2, rfl, hlt2, hr2⟩, n2, rfl⟩; have HR2 := Lib.hid hr2; clear hr2))
  go_ret
  refine ⟨⟨_, rfl, hlt2, ?_⟩, _, rfl⟩
  rw [HR2.out, HR1.out, HR.out]; rfl

end Go.Proofs.Ytkkomajokdlkeaa
