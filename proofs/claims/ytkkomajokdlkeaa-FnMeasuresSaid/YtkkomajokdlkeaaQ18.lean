/- Contracts: how far two series are apart. -/
import Derived.Test.YtkkomajokdlkeaaQ16
import Derived.Test.YtkkomajokdlkeaaQ17
namespace Go.Proofs.Ytkkomajokdlkeaa
set_option linter.unusedSimpArgs false
set_option linter.unusedVariables false
set_option maxRecDepth 100000
set_option maxHeartbeats 4000000
open Go.RowKit
attribute [local go_sem] run_store_float run_store_complex alloc_drewN setCell_drewN

/-- What an operation gives, as an equation for every world. -/
theorem run_ar_all (P : Program) (op : BinOp) (hop : isAr op = true) : ∃ (R N : Nat → Nat → World → Nat), ∀ t x y w, (binOp op t (.float .f32 x) (.float .f32 y)).run P w = .ok (.float .f32 (R x y w)) (w.drewN (N x y w)) ∧ cn .f32 (R x y w) = ar op .f32 (cn .f32 x) (cn .f32 y) ∧ R x y w < 4294967296 := by
  refine ⟨fun x y w => Classical.choose (run_ar (P := P) w op 0 .f32 x y hop), fun x y w => Classical.choose (Classical.choose_spec (run_ar (P := P) w op 0 .f32 x y hop)), fun t x y w => ?_⟩
  have := Classical.choose_spec (Classical.choose_spec (run_ar (P := P) w op 0 .f32 x y hop))
  refine ⟨?_, this.2.1, this.2.2⟩
  rw [← this.1]
  cases op <;> first | rfl | cases hop

def lessL (cs ds : List Nat) (n : Nat) : List Nat := (List.range n).map fun i => subF (cs.getD i 0) (ds.getD i 0)
theorem lessL_length (cs ds : List Nat) (n : Nat) : (lessL cs ds n).length = n := by simp [lessL]
theorem lessL_succ (cs ds : List Nat) (n : Nat) : lessL cs ds (n + 1) = lessL cs ds n ++ [subF (cs.getD n 0) (ds.getD n 0)] := by simp [lessL, List.range_succ]
theorem lessL_get (cs ds : List Nat) {n i : Nat} (h : i < n) : (lessL cs ds n).getD i 0 = subF (cs.getD i 0) (ds.getD i 0) := by
  simp [lessL, List.getD_eq_getElem?_getD, List.getElem?_map, List.getElem?_range h]
def dotL (cs ds : List Nat) : Nat → Nat
  | 0 => 0
  | k + 1 => addF (dotL cs ds k) (mulF (cs.getD k 0) (ds.getD k 0))
def sqsL (f : Nat → Nat) : Nat → Nat
  | 0 => 0
  | k + 1 => addF (sqsL f k) (mulF (f k) (f k))
theorem dot_sqs {cs : List Nat} {f : Nat → Nat} (n : Nat) (h : ∀ i, i < n → cs.getD i 0 = f i) : dotL cs cs n = sqsL f n := by
  induction n with
  | zero => rfl
  | succ n ih =>
    show addF _ _ = addF _ _
    rw [ih (fun i hi => h i (by omega)), h n (by omega)]
def farL (cs ds : List Nat) : Nat := rootF (sqsL (fun i => subF (cs.getD i 0) (ds.getD i 0)) cs.length)
theorem far_less (cs ds : List Nat) : rootF (dotL (lessL cs ds cs.length) (lessL cs ds cs.length) cs.length) = farL cs ds := by
  rw [farL, dot_sqs cs.length (f := fun i => subF (cs.getD i 0) (ds.getD i 0)) (fun i hi => lessL_get cs ds hi)]
def twoOk (cs ds : List Nat) : Bool := series cs && series ds && decide (cs.length = ds.length)
def farQ (cs ds : List Nat) : Nat × Bool := if twoOk cs ds then numB (farL cs ds) else (0, false)
theorem farQ_no {cs ds : List Nat} (h : twoOk cs ds = false) : farQ cs ds = (0, false) := by rw [farQ, h]; rfl
theorem farQ_yes {cs ds : List Nat} (h : twoOk cs ds = true) : farQ cs ds = numB (farL cs ds) := by rw [farQ, h]; rfl
theorem two_len {cs ds : List Nat} (h : twoOk cs ds = true) : cs.length = ds.length ∧ cs.length ≤ 96 ∧ 1 ≤ cs.length := by
  simp only [twoOk, Bool.and_eq_true, decide_eq_true_eq] at h
  have := series_len h.1.1
  exact ⟨h.2, by omega, by omega⟩


theorem i_less (u v : Value) (cs ds : List Nat) (w : World) (hu : SB w u cs) (hv : SB w v ds) (hl : cs.length = ds.length) (hn : cs.length ≤ 96) :
    Calls Try.prog 133 #[u, v] w fun e w' => (∃ r, e = .returned r ∧ OW 33 w.heap.size w' r (lessL cs ds cs.length)) ∧ Below w.heap.size w w' := by
  obtain ⟨ao, c, rfl, hc1, hc2, hget⟩ := hu.get rfl
  obtain ⟨bo, d, rfl, hd1, hd2, hget2⟩ := hv.get hl.symm
  have HG := Lib.hid hget
  have HG2 := Lib.hid hget2
  clear hget hget2 hl
  go_enter Try.func133, Try.ntmps133
  go_wp2_with fail
  go_loopw [5, 11] (fun v i wr => ∃ k : Nat, k ≤ cs.length ∧ i = .int .i64 (k : Int) ∧ Hid (OW 33 w.heap.size wr v (lessL cs ds k)) ∧ Below w.heap.size w wr) (fun _ i _ => cs.length - (intOf i).toNat)
  case atStart => exact ⟨0, Nat.zero_le _, rfl, (by show OW _ _ _ _ _; exact OW.empty _ _ rfl (Nat.le_refl _)), by (repeat (first | exact Below.refl _ _ | assumption | refine below_drewN ?_ _ | refine Below.drew ?_ | refine Below.alloc ?_ (by first | omega | (simp; omega) | (simp; done) | (simp at *; omega)) _ | refine Below.setCell ?_ (by first | omega | (simp; omega) | (simp; done) | (simp at *; omega)) _ | refine Below.trans ?_ (Below.mono (by assumption) (by first | omega | (simp; omega) | (simp; done) | (simp at *; omega)))))⟩
  case round =>
    obtain ⟨k, hk, rfl, HO, hb⟩ := hrel
    have hz := hb.size
    by_cases hlt : k < cs.length
    · obtain ⟨b, off, x, rfl, hbl, hc, hx, hcx⟩ := HG.out k hlt
      have hc' := (hb.cell (p := ⟨b, off + k, none⟩) hbl).trans hc
      obtain ⟨b2, off2, y, rfl, hbl2, hd, hy, hcy⟩ := HG2.out k hlt
      have hd' := (hb.cell (p := ⟨b2, off2 + k, none⟩) hbl2).trans hd
      have HX := Lib.hid hcx
      have HY := Lib.hid hcy
      have HL := Lib.hid (show (lessL cs ds k).length < 1099511627776 by rw [lessL_length]; omega)
      clear hc hd hcx hcy
      go_wp2_with (first
        | (refine wpList_ar .f32 _ _ rfl rfl rfl ?_; intro r n hr hlt1)
        | (at_builtin; refine wpList_app1 f32s w.heap.size u5 _ rfl (by first | exact OW.drewN (OW.alloc HO.out _) _ | exact OW.alloc HO.out _) _ r rfl (by simp; done) hlt1 HL.out (by simp; omega) ?_; intro v' w' ho' hg'; have HO' := Lib.hid ho'; clear ho'))
      refine ⟨⟨k + 1, by omega, by go_num, ?_, ?_⟩, by simp [intOf]; omega⟩
      · show OW _ _ _ _ _
        have h1 := HO'.out
        rw [hr, HX.out, HY.out] at h1
        rw [lessL_succ]
        exact h1
      · refine below_of_grown ?_ hg' (by simp; omega) HO.out.own_ge
        (repeat (first | exact Below.refl _ _ | assumption | refine below_drewN ?_ _ | refine Below.drew ?_ | refine Below.alloc ?_ (by first | omega | (simp; omega) | (simp; done) | (simp at *; omega)) _ | refine Below.setCell ?_ (by first | omega | (simp; omega) | (simp; done) | (simp at *; omega)) _ | refine Below.trans ?_ (Below.mono (by assumption) (by first | omega | (simp; omega) | (simp; done) | (simp at *; omega)))))
    · go_wp2_with fail
      go_ret
      obtain rfl : k = cs.length := by omega
      exact ⟨⟨_, rfl, HO.out⟩, hb⟩

theorem i_dot (u v : Value) (cs ds : List Nat) (w : World) (hu : SB w u cs) (hv : SB w v ds) (hl : cs.length = ds.length) :
    Calls Try.prog 96 #[u, v] w fun e w' => (∃ r, e = .returned (.float .f32 r) ∧ r < 4294967296 ∧ cn .f32 r = dotL cs ds cs.length) ∧ Dr w w' := by
  obtain ⟨ao, c, rfl, hc1, hc2, hget⟩ := hu.get rfl
  obtain ⟨bo, d, rfl, hd1, hd2, hget2⟩ := hv.get hl.symm
  have HG := Lib.hid hget
  have HG2 := Lib.hid hget2
  clear hget hget2 hl
  go_enter Try.func96, Try.ntmps96
  go_wp2_with fail
  go_loopw [5, 10] (fun s i wr => ∃ k : Nat, k ≤ cs.length ∧ i = .int .i64 (k : Int) ∧ (∃ r, s = .float .f32 r ∧ r < 4294967296 ∧ Hid (cn .f32 r = dotL cs ds k)) ∧ ∃ d, wr = w.drewN d) (fun _ i _ => cs.length - (intOf i).toNat)
  case atStart => exact ⟨0, Nat.zero_le _, rfl, ⟨0, rfl, by omega, cn0⟩, 0, rfl⟩
  case round =>
    obtain ⟨k, hk, rfl, ⟨r, rfl, hr, HR⟩, dn, rfl⟩ := hrel
    by_cases hlt : k < cs.length
    · obtain ⟨b, off, x, rfl, hbl, hc, hx, hcx⟩ := HG.out k hlt
      obtain ⟨b2, off2, y, rfl, hbl2, hd, hy, hcy⟩ := HG2.out k hlt
      go_wp2_with (refine wpList_ar .f32 _ _ rfl rfl rfl ?_; intro r1 n1 hr1 hlt1)
      refine ⟨⟨k + 1, by omega, by go_num, ⟨_, rfl, hlt1, ?_⟩, _, rfl⟩, by simp [intOf]; omega⟩
      have hR := HR.out
      show _ = addF _ (mulF _ _)
      simp only [addF, mulF, *]
    · go_wp2_with fail
      go_ret
      obtain rfl : k = cs.length := by omega
      exact ⟨⟨_, rfl, hr, HR.out⟩, _, rfl⟩

theorem i_areTwo (u v : Value) (cs ds : List Nat) (w : World) (hu : SL w u cs) (hv : SL w v ds) :
    Calls Try.prog 89 #[u, v] w fun e w' => e = .returned (.bool (twoOk cs ds)) ∧ Dr w w' := by
  obtain ⟨ao, c, rfl, hlen⟩ := hu.slice
  obtain ⟨bo, d, rfl, hlen2⟩ := hv.slice
  by_cases hl : cs.length = ds.length
  · have HL := Lib.hid hl
    have hl2 : ((cs.length : Int) == (ds.length : Int)) = true := by simp; omega
    clear hl
    go_enter Try.func89, Try.ntmps89
    go_wp2_with (first
      | (go_at_call_of 60 (Value.slice ao cs.length c); refine (i_IsSeries _ cs _ hu).mono ?_; rintro e w1 ⟨rfl, n1, rfl⟩)
      | (go_at_call_of 60 (Value.slice bo ds.length d); refine (i_IsSeries _ ds _ (hv.drewN _)).mono ?_; rintro e w1 ⟨rfl, n2, rfl⟩))
    all_goals
      go_ret
      refine ⟨ret_bool ?_, Dr.mk _ _⟩
      have h := HL.out
      first | (simp [twoOk, h, *]; done) | (simp_all [twoOk]; done) | trace_state
  · have HL := Lib.hid hl
    have hl2 : ((cs.length : Int) == (ds.length : Int)) = false := by simp; omega
    clear hl
    go_enter Try.func89, Try.ntmps89
    go_wp2_with (first
      | (go_at_call_of 60 (Value.slice ao cs.length c); refine (i_IsSeries _ cs _ hu).mono ?_; rintro e w1 ⟨rfl, n1, rfl⟩)
      | (go_at_call_of 60 (Value.slice bo ds.length d); refine (i_IsSeries _ ds _ (hv.drewN _)).mono ?_; rintro e w1 ⟨rfl, n2, rfl⟩))
    all_goals
      go_ret
      refine ⟨ret_bool ?_, Dr.mk _ _⟩
      have h := HL.out
      first | (simp [twoOk, h, *]; done) | (simp_all [twoOk]; done) | trace_state

theorem i_farOf (u v : Value) (cs ds : List Nat) (w : World) (hu : SB w u cs) (hv : SB w v ds) (hl : cs.length = ds.length) (hn : cs.length ≤ 96) :
    Calls Try.prog 93 #[u, v] w fun e w' => (∃ r, e = .returned (.float .f32 r) ∧ r < 4294967296 ∧ cn .f32 r = farL cs ds) ∧ Below w.heap.size w w' := by
  have HL := Lib.hid hl
  clear hl
  go_enter Try.func93, Try.ntmps93
  go_wp2_with (first
    | (go_at_call 133; refine (i_less _ _ cs ds _ hu hv HL.out hn).mono ?_; rintro e w1 ⟨⟨r1, rfl, ho⟩, hb1⟩; have HO := Lib.hid ho; clear ho)
    | (go_at_call 96; refine (i_dot _ _ _ _ _ HO.out.sb HO.out.sb rfl).mono ?_; rintro e w2 ⟨⟨r2, rfl, hr2, hs2⟩, n2, rfl⟩; have HS := Lib.hid hs2; clear hs2)
    | (go_at_call 73; refine (i_RootNumber _ _).mono ?_; rintro e w2 ⟨⟨r3, rfl, hr3, hs3⟩, n3, rfl⟩; have HS3 := Lib.hid hs3; clear hs3))
  go_ret
  refine ⟨⟨_, rfl, hr3, ?_⟩, by (repeat (first | exact Below.refl _ _ | assumption | refine below_drewN ?_ _ | refine Below.drew ?_ | refine Below.alloc ?_ (by first | omega | (simp; omega) | (simp; done) | (simp at *; omega)) _ | refine Below.setCell ?_ (by first | omega | (simp; omega) | (simp; done) | (simp at *; omega)) _ | refine Below.trans ?_ (Below.mono (by assumption) (by first | omega | (simp; omega) | (simp; done) | (simp at *; omega)))))⟩
  rw [HS3.out, HS.out, lessL_length, far_less]

theorem i_FarOfShapes (u v : Value) (cs ds : List Nat) (w : World) (hu : SB w u cs) (hv : SB w v ds) :
    Calls Try.prog 34 #[u, v] w fun e w' => NB e (farQ cs ds) ∧ Below w.heap.size w w' := by
  cases hok : twoOk cs ds
  all_goals
    have HOK := Lib.hid hok
    clear hok
  · go_enter Try.func34, Try.ntmps34
    go_wp2_with (go_at_call 89; refine (i_areTwo _ _ cs ds _ hu.sl hv.sl).mono ?_; rintro e w1 ⟨rfl, n1, rfl⟩; rw [HOK.out])
    go_ret2
    exact ⟨⟨0, false, rfl, by omega, by rw [farQ_no HOK.out]; exact cn0, by rw [farQ_no HOK.out]⟩, by (repeat (first | exact Below.refl _ _ | assumption | refine below_drewN ?_ _ | refine Below.drew ?_ | refine Below.alloc ?_ (by first | omega | (simp; omega) | (simp; done) | (simp at *; omega)) _ | refine Below.setCell ?_ (by first | omega | (simp; omega) | (simp; done) | (simp at *; omega)) _ | refine Below.trans ?_ (Below.mono (by assumption) (by first | omega | (simp; omega) | (simp; done) | (simp at *; omega)))))⟩
  · have HT := Lib.hid (two_len HOK.out)
    go_enter Try.func34, Try.ntmps34
    go_wp2_with (first
      | (go_at_call 89; refine (i_areTwo _ _ cs ds _ hu.sl hv.sl).mono ?_; rintro e w1 ⟨rfl, n1, rfl⟩; rw [HOK.out])
      | (go_at_call 93; refine (i_farOf _ _ cs ds _ (hu.drewN _) (hv.drewN _) HT.out.1 HT.out.2.1).mono ?_; rintro e w2 ⟨⟨r2, rfl, hr2, hs2⟩, hb2⟩; simp only [World.heap_drewN] at hb2; have HS := Lib.hid hs2; clear hs2)
      | (go_at_call 72; refine (i_ifFinite _ hr2 _).mono ?_; rintro e w3 ⟨⟨r, b, rfl, hr1, hr3, hr4⟩, n3, rfl⟩; have HR2 := Lib.hid hr3; have HR3 := Lib.hid hr4; clear hr3 hr4))
    go_ret2
    have hb3 := below_undrew (n := n1) (w := w) (w' := w2) hb2
    refine ⟨⟨_, _, rfl, hr1, ?_, ?_⟩, by (repeat (first | exact Below.refl _ _ | assumption | refine below_drewN ?_ _ | refine Below.drew ?_ | refine Below.alloc ?_ (by first | omega | (simp; omega) | (simp; done) | (simp at *; omega)) _ | refine Below.setCell ?_ (by first | omega | (simp; omega) | (simp; done) | (simp at *; omega)) _ | refine Below.trans ?_ (Below.mono (by assumption) (by first | omega | (simp; omega) | (simp; done) | (simp at *; omega)))))⟩
    · rw [HR2.out, HS.out, farQ_yes HOK.out]
    · rw [HR3.out, HS.out, farQ_yes HOK.out]

theorem s_l07Far (u v : Value) (cs ds : List Nat) (w : World) (hu : SB w u cs) (hv : SB w v ds) (hl : cs.length = ds.length) :
    Calls Try.prog 67 #[u, v] w fun e w' => (∃ r, e = .returned (.float .f32 r) ∧ r < 4294967296 ∧ cn .f32 r = farL cs ds) ∧ Dr w w' := by
  obtain ⟨ao, c, rfl, hc1, hc2, hget⟩ := hu.get rfl
  obtain ⟨bo, d, rfl, hd1, hd2, hget2⟩ := hv.get hl.symm
  have HG := Lib.hid hget
  have HG2 := Lib.hid hget2
  clear hget hget2 hl
  go_enter Try.func67, Try.ntmps67
  go_wp2_with fail
  go_loopw [5, 10] (fun s i wr => ∃ k : Nat, k ≤ cs.length ∧ i = .int .i64 (k : Int) ∧ (∃ r, s = .float .f32 r ∧ r < 4294967296 ∧ Hid (cn .f32 r = sqsL (fun i => subF (cs.getD i 0) (ds.getD i 0)) k)) ∧ ∃ d, wr = w.drewN d) (fun _ i _ => cs.length - (intOf i).toNat)
  case atStart => exact ⟨0, Nat.zero_le _, rfl, ⟨0, rfl, by omega, cn0⟩, 0, rfl⟩
  case round =>
    obtain ⟨k, hk, rfl, ⟨r, rfl, hr, HR⟩, dn, rfl⟩ := hrel
    by_cases hlt : k < cs.length
    · obtain ⟨b, off, x, rfl, hbl, hc, hx, hcx⟩ := HG.out k hlt
      obtain ⟨b2, off2, y, rfl, hbl2, hd, hy, hcy⟩ := HG2.out k hlt
      have HX := Lib.hid hcx
      have HY := Lib.hid hcy
      clear hcx hcy
      obtain ⟨RS, NS, hS⟩ := run_ar_all Try.prog .sub rfl
      have hS1 := fun t x y w => (hS t x y w).1
      have HS := Lib.hid (fun t x y w => (hS t x y w).2)
      clear hS
      go_wp2_with fail
      go_region
      generalize hq : RS x y _ = q
      have hq1 : cn .f32 q = subF (cs.getD k 0) (ds.getD k 0) := by rw [← hq, (HS.out 0 _ _ _).1, HX.out, HY.out]; rfl
      clear hS1 hq
      have HQ := Lib.hid hq1
      clear hq1
      go_wp2_with (refine wpList_ar .f32 _ _ rfl rfl rfl ?_; intro r1 n1 hr1 hlt1)
      refine ⟨⟨k + 1, by omega, by go_num, ⟨_, rfl, hlt1, ?_⟩, _, rfl⟩, by simp [intOf]; omega⟩
      have hR := HR.out
      have hQ := HQ.out
      show _ = addF _ (mulF _ _)
      simp only [addF, mulF, *]
    · go_wp2_with (go_at_call 120; refine (s_l01Sqrt _ _).mono ?_; rintro e w2 ⟨⟨r3, rfl, hr3, hs3⟩, n3, rfl⟩; have HS3 := Lib.hid hs3; clear hs3)
      go_ret
      obtain rfl : k = cs.length := by omega
      refine ⟨⟨_, rfl, hr3, ?_⟩, _, rfl⟩
      rw [HS3.out, HR.out]; rfl

theorem s_FarOfShapes (u v : Value) (cs ds : List Nat) (w : World) (hu : SB w u cs) (hv : SB w v ds) :
    Calls Try.prog 14 #[u, v] w fun e w' => NB e (farQ cs ds) ∧ Dr w w' := by
  have HU := Lib.hid hu
  have HV := Lib.hid hv
  obtain ⟨ao, c, rfl, hlen⟩ := hu.sl.slice
  obtain ⟨bo, d, rfl, hlen2⟩ := hv.sl.slice
  clear hu hv
  cases hok : twoOk cs ds
  all_goals
    have HOK := Lib.hid hok
    clear hok
  · by_cases hl : cs.length = ds.length
    · have hl2 : ((cs.length : Int) != (ds.length : Int)) = false := by simp; omega
      have HT := Lib.hid (show (series cs && series ds) = false by have h := HOK.out; simpa [twoOk, hl] using h)
      clear hl
      cases hs1 : series cs
      all_goals
        cases hs2 : series ds
        all_goals first
          | (exfalso; have h := HT.out; rw [hs1, hs2] at h; cases h; done)
          | (have HS1 := Lib.hid hs1
             have HS2 := Lib.hid hs2
             clear hs1 hs2
             go_enter Try.func14, Try.ntmps14
             go_wp2_with (first
               | (go_at_call_of 65 (Value.slice ao cs.length c); refine (s_l02Series _ cs _ HU.out.sl).mono ?_; rintro e w1 ⟨rfl, n1, rfl⟩; rw [HS1.out])
               | (go_at_call_of 65 (Value.slice bo ds.length d); refine (s_l02Series _ ds _ (HV.out.sl.drewN _)).mono ?_; rintro e w1 ⟨rfl, n2, rfl⟩; rw [HS2.out]))
             go_ret2
             exact ⟨⟨0, false, rfl, by omega, by rw [farQ_no HOK.out]; exact cn0, by rw [farQ_no HOK.out]⟩, Dr.mk _ _⟩)
    · have hl2 : ((cs.length : Int) != (ds.length : Int)) = true := by simp; omega
      clear hl
      go_enter Try.func14, Try.ntmps14
      go_wp2_with (first
        | (go_at_call_of 65 (Value.slice ao cs.length c); refine (s_l02Series _ cs _ HU.out.sl).mono ?_; rintro e w1 ⟨rfl, n1, rfl⟩)
        | (go_at_call_of 65 (Value.slice bo ds.length d); refine (s_l02Series _ ds _ (HV.out.sl.drewN _)).mono ?_; rintro e w1 ⟨rfl, n2, rfl⟩))
      all_goals
        go_ret2
        exact ⟨⟨0, false, rfl, by omega, by rw [farQ_no HOK.out]; exact cn0, by rw [farQ_no HOK.out]⟩, Dr.mk _ _⟩
  · have HT := Lib.hid (two_len HOK.out)
    have hl2 : ((cs.length : Int) != (ds.length : Int)) = false := by have := HT.out.1; simp; omega
    have HS1 := Lib.hid (show series cs = true by have h := HOK.out; simp only [twoOk, Bool.and_eq_true] at h; exact h.1.1)
    have HS2 := Lib.hid (show series ds = true by have h := HOK.out; simp only [twoOk, Bool.and_eq_true] at h; exact h.1.2)
    go_enter Try.func14, Try.ntmps14
    go_wp2_with (first
      | (go_at_call_of 65 (Value.slice ao cs.length c); refine (s_l02Series _ cs _ HU.out.sl).mono ?_; rintro e w1 ⟨rfl, n1, rfl⟩; rw [HS1.out])
      | (go_at_call_of 65 (Value.slice bo ds.length d); refine (s_l02Series _ ds _ (HV.out.sl.drewN _)).mono ?_; rintro e w1 ⟨rfl, n2, rfl⟩; rw [HS2.out])
      | (go_at_call 67; refine (s_l07Far _ _ cs ds _ (HU.out.drewN _) (HV.out.drewN _) HT.out.1).mono ?_; rintro e w2 ⟨⟨r2, rfl, hr2, hs2⟩, n2, rfl⟩; have HS := Lib.hid hs2; clear hs2)
      | (go_at_call 66; refine (s_l02Number _ hr2 _).mono ?_; rintro e w3 ⟨⟨r, b, rfl, hr1, hr3, hr4⟩, n3, rfl⟩; have HR2 := Lib.hid hr3; have HR3 := Lib.hid hr4; clear hr3 hr4))
    go_ret2
    refine ⟨⟨_, _, rfl, hr1, ?_, ?_⟩, Dr.mk _ _⟩
    · rw [HR2.out, HS.out, farQ_yes HOK.out]
    · rw [HR3.out, HS.out, farQ_yes HOK.out]
theorem s_FarOfShapesB (u v : Value) (cs ds : List Nat) (w : World) (hu : SB w u cs) (hv : SB w v ds) :
    Calls Try.prog 14 #[u, v] w fun e w' => NB e (farQ cs ds) ∧ Below w.heap.size w w' :=
  (s_FarOfShapes u v cs ds w hu hv).mono fun _ _ ⟨h, d⟩ => ⟨h, d.below _⟩

end Go.Proofs.Ytkkomajokdlkeaa
