/- Contracts: means of what is told of misses, by the program (MeanMiss, SizeMiss, ShareMiss, QuantileMiss). -/
import Derived.Deep.QuietTactic
import Derived.BigQuiet
import Derived.Test.YtkkomajokdlkeaaQ3
import Derived.Test.YtkkomajokdlkeaaQ6
import Derived.Test.YtkkomajokdlkeaaQ8
import Derived.Test.YtkkomajokdlkeaaQ15
import Derived.Test.YtkkomajokdlkeaaQ18
namespace Go.Proofs.Ytkkomajokdlkeaa
set_option linter.unusedSimpArgs false
set_option linter.unusedVariables false
set_option maxRecDepth 100000
set_option maxHeartbeats 4000000
set_option linter.unusedSimpArgs false
set_option linter.unusedVariables false
open Go.RowKit
attribute [local go_sem] run_store_float run_store_complex alloc_drewN setCell_drewN
theorem fin_getD182 {cs : List Nat} (h : allFin cs = true) (i : Nat) : fin (cs.getD i 0) = true := by
  rw [List.getD_eq_getElem?_getD]
  cases e : cs[i]? with
  | none => rfl
  | some c => exact List.all_eq_true.1 h c (List.mem_of_getElem? e)
/-- Sums of what is told of misses, no NaN among them. -/
structure MS (cs ds : List Nat) (F SS : Nat → Nat) : Prop where
  ok : twoOk cs ds = true
  sub : ∀ k, k < cs.length → (S.read (subF (cs.getD k 0) (ds.getD k 0))).isNaN = false
  no : ∀ k, k < cs.length → (S.read (F k)).isNaN = false
  zero : SS 0 = 0
  sum : ∀ k, k < cs.length → SS (k + 1) = addF (SS k) (F k)
  sno : ∀ k, k ≤ cs.length → (S.read (SS k)).isNaN = false
def msV (SS : Nat → Nat) (n : Nat) : Nat × Bool := numB (divF (SS n) (fI n))

theorem i_meanMissMeanMiss (u v : Value) (cs ds : List Nat) (w : World) (hu : SB w u cs) (hv : SB w v ds) {F SS : Nat → Nat} (hm : MS cs ds F SS) (hC : ∀ k, k < cs.length → ∀ W : World, Calls Try.prog 99 #[.float .f32 (subF (cs.getD k 0) (ds.getD k 0)), .float .f32 (cs.getD k 0), .float .f32 (ds.getD k 0)] W fun e w' => e = .returned (.float .f32 (F k)) ∧ Dr W w') :
    Calls Try.prog 98 #[u, v, .func (.func 99) #[] #[]] w fun e w' => NB e (msV SS cs.length) ∧ Dr w w' := by
  have HU := Lib.hid hu
  have HV := Lib.hid hv
  have HM := Lib.hid hm
  have HCC := Lib.hid hC
  obtain ⟨hl, hn96, hn1⟩ := two_len hm.ok
  have hfin : allFin cs = true ∧ allFin ds = true := by
    have hok := hm.ok
    simp only [twoOk, series, Bool.and_eq_true] at hok
    exact ⟨hok.1.1.2, hok.1.2.2⟩
  obtain ⟨ao, c, rfl, -, -, hg1⟩ := hu.get rfl
  obtain ⟨bo, d, rfl, -, -, hg2⟩ := hv.get hl.symm
  have HG1 := Lib.hid hg1
  have HG2 := Lib.hid hg2
  have HF := Lib.hid hfin
  have HLN := Lib.hid hl
  clear hu hv hg1 hg2 hfin hl hm hC
  go_enter Try.func98, Try.ntmps98
  go_wp2_with fail
  refine (i_areTwo _ _ cs ds _ HU.out.sl HV.out.sl).mono ?_; rintro e w1 ⟨rfl, n1, rfl⟩
  rw [HM.out.ok]
  go_wp2_with fail
  go_loopw [8, 17] (fun s i wr => ∃ k : Nat, k ≤ cs.length ∧ i = .int .i64 (k : Int) ∧ s = .float .f32 (SS k) ∧ ∃ n, wr = w.drewN n) (fun _ i _ => cs.length - (intOf i).toNat)
  case atStart => exact ⟨0, Nat.zero_le _, rfl, by rw [HM.out.zero], _, rfl⟩
  case round =>
    obtain ⟨k, hk, rfl, rfl, dn, rfl⟩ := hrel
    by_cases hlt : k < cs.length
    · obtain ⟨b1, o1, x, rfl, hbl1, hc1, hx, hcx⟩ := HG1.out k hlt
      obtain ⟨b2, o2, y, rfl, hbl2, hc2, hy, hcy⟩ := HG2.out k hlt
      have fx := fin_getD182 HF.out.1 k
      have fy := fin_getD182 HF.out.2 k
      obtain ⟨rfl, -⟩ := raw_of hcx fx
      obtain ⟨rfl, -⟩ := raw_of hcy fy
      have hD := HM.out.sub k hlt
      have hq := HM.out.no k hlt
      have hs := HM.out.sno k (by omega)
      have hs1 := HM.out.sno (k + 1) (by omega)
      have RUN1 := fun t w => run_arxT (P := Try.prog) .sub (cs.getD k 0) (ds.getD k 0) (subF (cs.getD k 0) (ds.getD k 0)) (by rw [cn_of_not (k := .f32) (fin_notNaN fx), cn_of_not (k := .f32) (fin_notNaN fy)]; rfl) hD t w
      have HC := Lib.hid (fun W => HCC.out k hlt W)
      have RUN2 := fun t w => run_arxT (P := Try.prog) .add (SS k) (F k) (SS (k + 1)) (by rw [cn_of_not (k := .f32) hs, cn_of_not (k := .f32) hq, HM.out.sum k hlt]; rfl) hs1 t w
      have HE := fun (args : Array Value) (w : World) => (show (callFunc 99 args).run Try.prog w = .ok (.enter 99 args) w by kernel_rfl)
      generalize hS1 : SS (k + 1) = s1 at *
      have HS1 := Lib.hid hS1
      clear hS1
      generalize SS k = s0 at *
      generalize F k = qq at *
      generalize subF (cs.getD k 0) (ds.getD k 0) = dd at *
      generalize cs.getD k 0 = xx at *
      generalize ds.getD k 0 = yy at *
      clear hcx hcy fx fy hD hq hs hs1
      go_wp2_with fail
      go_quiet ((go_at_call 99; first | exact quiet_dr (HC.out _) | exact quiet_dr2 (HC.out _)))
      go_wp2_with fail
      exact ⟨⟨k + 1, by omega, by go_num, by rw [HS1.out], _, rfl⟩, by simp [intOf]; omega⟩
    · obtain rfl : k = cs.length := by omega
      have HSN := Lib.hid (cn_of_not (k := .f32) (HM.out.sno cs.length (Nat.le_refl _)))
      have HMV := Lib.hid (show msV SS cs.length = numB (divF (SS cs.length) (fI cs.length)) from rfl)
      generalize SS cs.length = s0 at *
      go_wp2_with (first | (refine wpList_ar .f32 _ _ rfl rfl rfl ?_; intro r1 n1 hr1 hlt1))
      refine (i_ifFinite r1 hlt1 _).mono ?_; rintro e w5 ⟨⟨r2, b2, rfl, hr2, hr3, hb2⟩, n5, rfl⟩
      rw [HSN.out, show cn .f32 (floatOfInt .f32 (cs.length : Int)) = fI cs.length from cn_fI _] at hr1
      rw [hr1] at hr3 hb2
      go_wp2_with fail
      go_ret2
      exact ⟨⟨_, _, rfl, hr2, by rw [HMV.out]; exact hr3, by rw [HMV.out]; first | exact hb2 | rfl⟩, Dr.mk _ _⟩

theorem i_MeanMiss (u v : Value) (cs ds : List Nat) (w : World) (hu : SB w u cs) (hv : SB w v ds) {F SS : Nat → Nat} (hm : MS cs ds F SS) (hC : ∀ k, k < cs.length → ∀ W : World, Calls Try.prog 99 #[.float .f32 (subF (cs.getD k 0) (ds.getD k 0)), .float .f32 (cs.getD k 0), .float .f32 (ds.getD k 0)] W fun e w' => e = .returned (.float .f32 (F k)) ∧ Dr W w') :
    Calls Try.prog 40 #[u, v] w fun e w' => NB e (msV SS cs.length) ∧ Dr w w' := by
  have HU := Lib.hid hu
  have HV := Lib.hid hv
  go_enter Try.func40, Try.ntmps40
  go_wp2_with fail
  refine (i_meanMissMeanMiss u v cs ds _ HU.out HV.out hm hC).mono ?_; rintro e w5 ⟨⟨r2, b2, rfl, hr2, hr3, hb2⟩, n5, rfl⟩
  go_wp2_with fail
  go_ret2
  exact ⟨⟨_, _, rfl, hr2, hr3, by first | exact hb2 | rfl⟩, Dr.mk _ _⟩

theorem i_meanMissSizeMiss (u v : Value) (cs ds : List Nat) (w : World) (hu : SB w u cs) (hv : SB w v ds) {F SS : Nat → Nat} (hm : MS cs ds F SS) (hC : ∀ k, k < cs.length → ∀ W : World, Calls Try.prog 100 #[.float .f32 (subF (cs.getD k 0) (ds.getD k 0)), .float .f32 (cs.getD k 0), .float .f32 (ds.getD k 0)] W fun e w' => e = .returned (.float .f32 (F k)) ∧ Dr W w') :
    Calls Try.prog 98 #[u, v, .func (.func 100) #[] #[]] w fun e w' => NB e (msV SS cs.length) ∧ Dr w w' := by
  have HU := Lib.hid hu
  have HV := Lib.hid hv
  have HM := Lib.hid hm
  have HCC := Lib.hid hC
  obtain ⟨hl, hn96, hn1⟩ := two_len hm.ok
  have hfin : allFin cs = true ∧ allFin ds = true := by
    have hok := hm.ok
    simp only [twoOk, series, Bool.and_eq_true] at hok
    exact ⟨hok.1.1.2, hok.1.2.2⟩
  obtain ⟨ao, c, rfl, -, -, hg1⟩ := hu.get rfl
  obtain ⟨bo, d, rfl, -, -, hg2⟩ := hv.get hl.symm
  have HG1 := Lib.hid hg1
  have HG2 := Lib.hid hg2
  have HF := Lib.hid hfin
  have HLN := Lib.hid hl
  clear hu hv hg1 hg2 hfin hl hm hC
  go_enter Try.func98, Try.ntmps98
  go_wp2_with fail
  refine (i_areTwo _ _ cs ds _ HU.out.sl HV.out.sl).mono ?_; rintro e w1 ⟨rfl, n1, rfl⟩
  rw [HM.out.ok]
  go_wp2_with fail
  go_loopw [8, 17] (fun s i wr => ∃ k : Nat, k ≤ cs.length ∧ i = .int .i64 (k : Int) ∧ s = .float .f32 (SS k) ∧ ∃ n, wr = w.drewN n) (fun _ i _ => cs.length - (intOf i).toNat)
  case atStart => exact ⟨0, Nat.zero_le _, rfl, by rw [HM.out.zero], _, rfl⟩
  case round =>
    obtain ⟨k, hk, rfl, rfl, dn, rfl⟩ := hrel
    by_cases hlt : k < cs.length
    · obtain ⟨b1, o1, x, rfl, hbl1, hc1, hx, hcx⟩ := HG1.out k hlt
      obtain ⟨b2, o2, y, rfl, hbl2, hc2, hy, hcy⟩ := HG2.out k hlt
      have fx := fin_getD182 HF.out.1 k
      have fy := fin_getD182 HF.out.2 k
      obtain ⟨rfl, -⟩ := raw_of hcx fx
      obtain ⟨rfl, -⟩ := raw_of hcy fy
      have hD := HM.out.sub k hlt
      have hq := HM.out.no k hlt
      have hs := HM.out.sno k (by omega)
      have hs1 := HM.out.sno (k + 1) (by omega)
      have RUN1 := fun t w => run_arxT (P := Try.prog) .sub (cs.getD k 0) (ds.getD k 0) (subF (cs.getD k 0) (ds.getD k 0)) (by rw [cn_of_not (k := .f32) (fin_notNaN fx), cn_of_not (k := .f32) (fin_notNaN fy)]; rfl) hD t w
      have HC := Lib.hid (fun W => HCC.out k hlt W)
      have RUN2 := fun t w => run_arxT (P := Try.prog) .add (SS k) (F k) (SS (k + 1)) (by rw [cn_of_not (k := .f32) hs, cn_of_not (k := .f32) hq, HM.out.sum k hlt]; rfl) hs1 t w
      have HE := fun (args : Array Value) (w : World) => (show (callFunc 100 args).run Try.prog w = .ok (.enter 100 args) w by kernel_rfl)
      generalize hS1 : SS (k + 1) = s1 at *
      have HS1 := Lib.hid hS1
      clear hS1
      generalize SS k = s0 at *
      generalize F k = qq at *
      generalize subF (cs.getD k 0) (ds.getD k 0) = dd at *
      generalize cs.getD k 0 = xx at *
      generalize ds.getD k 0 = yy at *
      clear hcx hcy fx fy hD hq hs hs1
      go_wp2_with fail
      go_quiet ((go_at_call 100; first | exact quiet_dr (HC.out _) | exact quiet_dr2 (HC.out _)))
      go_wp2_with fail
      exact ⟨⟨k + 1, by omega, by go_num, by rw [HS1.out], _, rfl⟩, by simp [intOf]; omega⟩
    · obtain rfl : k = cs.length := by omega
      have HSN := Lib.hid (cn_of_not (k := .f32) (HM.out.sno cs.length (Nat.le_refl _)))
      have HMV := Lib.hid (show msV SS cs.length = numB (divF (SS cs.length) (fI cs.length)) from rfl)
      generalize SS cs.length = s0 at *
      go_wp2_with (first | (refine wpList_ar .f32 _ _ rfl rfl rfl ?_; intro r1 n1 hr1 hlt1))
      refine (i_ifFinite r1 hlt1 _).mono ?_; rintro e w5 ⟨⟨r2, b2, rfl, hr2, hr3, hb2⟩, n5, rfl⟩
      rw [HSN.out, show cn .f32 (floatOfInt .f32 (cs.length : Int)) = fI cs.length from cn_fI _] at hr1
      rw [hr1] at hr3 hb2
      go_wp2_with fail
      go_ret2
      exact ⟨⟨_, _, rfl, hr2, by rw [HMV.out]; exact hr3, by rw [HMV.out]; first | exact hb2 | rfl⟩, Dr.mk _ _⟩

theorem i_SizeMiss (u v : Value) (cs ds : List Nat) (w : World) (hu : SB w u cs) (hv : SB w v ds) {F SS : Nat → Nat} (hm : MS cs ds F SS) (hC : ∀ k, k < cs.length → ∀ W : World, Calls Try.prog 100 #[.float .f32 (subF (cs.getD k 0) (ds.getD k 0)), .float .f32 (cs.getD k 0), .float .f32 (ds.getD k 0)] W fun e w' => e = .returned (.float .f32 (F k)) ∧ Dr W w') :
    Calls Try.prog 41 #[u, v] w fun e w' => NB e (msV SS cs.length) ∧ Dr w w' := by
  have HU := Lib.hid hu
  have HV := Lib.hid hv
  go_enter Try.func41, Try.ntmps41
  go_wp2_with fail
  refine (i_meanMissSizeMiss u v cs ds _ HU.out HV.out hm hC).mono ?_; rintro e w5 ⟨⟨r2, b2, rfl, hr2, hr3, hb2⟩, n5, rfl⟩
  go_wp2_with fail
  go_ret2
  exact ⟨⟨_, _, rfl, hr2, hr3, by first | exact hb2 | rfl⟩, Dr.mk _ _⟩

theorem i_meanMissShareMiss (u v : Value) (cs ds : List Nat) (w : World) (hu : SB w u cs) (hv : SB w v ds) {F SS : Nat → Nat} (hm : MS cs ds F SS) (hC : ∀ k, k < cs.length → ∀ W : World, Calls Try.prog 103 #[.float .f32 (subF (cs.getD k 0) (ds.getD k 0)), .float .f32 (cs.getD k 0), .float .f32 (ds.getD k 0)] W fun e w' => e = .returned (.float .f32 (F k)) ∧ Dr W w') :
    Calls Try.prog 98 #[u, v, .func (.func 103) #[] #[]] w fun e w' => NB e (msV SS cs.length) ∧ Dr w w' := by
  have HU := Lib.hid hu
  have HV := Lib.hid hv
  have HM := Lib.hid hm
  have HCC := Lib.hid hC
  obtain ⟨hl, hn96, hn1⟩ := two_len hm.ok
  have hfin : allFin cs = true ∧ allFin ds = true := by
    have hok := hm.ok
    simp only [twoOk, series, Bool.and_eq_true] at hok
    exact ⟨hok.1.1.2, hok.1.2.2⟩
  obtain ⟨ao, c, rfl, -, -, hg1⟩ := hu.get rfl
  obtain ⟨bo, d, rfl, -, -, hg2⟩ := hv.get hl.symm
  have HG1 := Lib.hid hg1
  have HG2 := Lib.hid hg2
  have HF := Lib.hid hfin
  have HLN := Lib.hid hl
  clear hu hv hg1 hg2 hfin hl hm hC
  go_enter Try.func98, Try.ntmps98
  go_wp2_with fail
  refine (i_areTwo _ _ cs ds _ HU.out.sl HV.out.sl).mono ?_; rintro e w1 ⟨rfl, n1, rfl⟩
  rw [HM.out.ok]
  go_wp2_with fail
  go_loopw [8, 17] (fun s i wr => ∃ k : Nat, k ≤ cs.length ∧ i = .int .i64 (k : Int) ∧ s = .float .f32 (SS k) ∧ ∃ n, wr = w.drewN n) (fun _ i _ => cs.length - (intOf i).toNat)
  case atStart => exact ⟨0, Nat.zero_le _, rfl, by rw [HM.out.zero], _, rfl⟩
  case round =>
    obtain ⟨k, hk, rfl, rfl, dn, rfl⟩ := hrel
    by_cases hlt : k < cs.length
    · obtain ⟨b1, o1, x, rfl, hbl1, hc1, hx, hcx⟩ := HG1.out k hlt
      obtain ⟨b2, o2, y, rfl, hbl2, hc2, hy, hcy⟩ := HG2.out k hlt
      have fx := fin_getD182 HF.out.1 k
      have fy := fin_getD182 HF.out.2 k
      obtain ⟨rfl, -⟩ := raw_of hcx fx
      obtain ⟨rfl, -⟩ := raw_of hcy fy
      have hD := HM.out.sub k hlt
      have hq := HM.out.no k hlt
      have hs := HM.out.sno k (by omega)
      have hs1 := HM.out.sno (k + 1) (by omega)
      have RUN1 := fun t w => run_arxT (P := Try.prog) .sub (cs.getD k 0) (ds.getD k 0) (subF (cs.getD k 0) (ds.getD k 0)) (by rw [cn_of_not (k := .f32) (fin_notNaN fx), cn_of_not (k := .f32) (fin_notNaN fy)]; rfl) hD t w
      have HC := Lib.hid (fun W => HCC.out k hlt W)
      have RUN2 := fun t w => run_arxT (P := Try.prog) .add (SS k) (F k) (SS (k + 1)) (by rw [cn_of_not (k := .f32) hs, cn_of_not (k := .f32) hq, HM.out.sum k hlt]; rfl) hs1 t w
      have HE := fun (args : Array Value) (w : World) => (show (callFunc 103 args).run Try.prog w = .ok (.enter 103 args) w by kernel_rfl)
      generalize hS1 : SS (k + 1) = s1 at *
      have HS1 := Lib.hid hS1
      clear hS1
      generalize SS k = s0 at *
      generalize F k = qq at *
      generalize subF (cs.getD k 0) (ds.getD k 0) = dd at *
      generalize cs.getD k 0 = xx at *
      generalize ds.getD k 0 = yy at *
      clear hcx hcy fx fy hD hq hs hs1
      go_wp2_with fail
      go_quiet ((go_at_call 103; first | exact quiet_dr (HC.out _) | exact quiet_dr2 (HC.out _)))
      go_wp2_with fail
      exact ⟨⟨k + 1, by omega, by go_num, by rw [HS1.out], _, rfl⟩, by simp [intOf]; omega⟩
    · obtain rfl : k = cs.length := by omega
      have HSN := Lib.hid (cn_of_not (k := .f32) (HM.out.sno cs.length (Nat.le_refl _)))
      have HMV := Lib.hid (show msV SS cs.length = numB (divF (SS cs.length) (fI cs.length)) from rfl)
      generalize SS cs.length = s0 at *
      go_wp2_with (first | (refine wpList_ar .f32 _ _ rfl rfl rfl ?_; intro r1 n1 hr1 hlt1))
      refine (i_ifFinite r1 hlt1 _).mono ?_; rintro e w5 ⟨⟨r2, b2, rfl, hr2, hr3, hb2⟩, n5, rfl⟩
      rw [HSN.out, show cn .f32 (floatOfInt .f32 (cs.length : Int)) = fI cs.length from cn_fI _] at hr1
      rw [hr1] at hr3 hb2
      go_wp2_with fail
      go_ret2
      exact ⟨⟨_, _, rfl, hr2, by rw [HMV.out]; exact hr3, by rw [HMV.out]; first | exact hb2 | rfl⟩, Dr.mk _ _⟩

theorem i_ShareMiss (u v : Value) (cs ds : List Nat) (w : World) (hu : SB w u cs) (hv : SB w v ds) {F SS : Nat → Nat} (hm : MS cs ds F SS) (hC : ∀ k, k < cs.length → ∀ W : World, Calls Try.prog 103 #[.float .f32 (subF (cs.getD k 0) (ds.getD k 0)), .float .f32 (cs.getD k 0), .float .f32 (ds.getD k 0)] W fun e w' => e = .returned (.float .f32 (F k)) ∧ Dr W w') :
    Calls Try.prog 43 #[u, v] w fun e w' => NB e (msV SS cs.length) ∧ Dr w w' := by
  have HU := Lib.hid hu
  have HV := Lib.hid hv
  go_enter Try.func43, Try.ntmps43
  go_wp2_with fail
  refine (i_meanMissShareMiss u v cs ds _ HU.out HV.out hm hC).mono ?_; rintro e w5 ⟨⟨r2, b2, rfl, hr2, hr3, hb2⟩, n5, rfl⟩
  go_wp2_with fail
  go_ret2
  exact ⟨⟨_, _, rfl, hr2, hr3, by first | exact hb2 | rfl⟩, Dr.mk _ _⟩

theorem i_meanMissQuantileMiss (u v : Value) (cs ds : List Nat) (w : World) (hu : SB w u cs) (hv : SB w v ds) (pb sh : Nat) (hpb : pb < w.heap.size) (hcell : w.cell? ⟨pb, 0, none⟩ = some (.float .f32 sh)) {F SS : Nat → Nat} (hm : MS cs ds F SS) (hC : ∀ k, k < cs.length → ∀ W : World, W.cell? ⟨pb, 0, none⟩ = some (.float .f32 sh) → Calls Try.prog 105 #[.float .f32 (subF (cs.getD k 0) (ds.getD k 0)), .float .f32 (cs.getD k 0), .float .f32 (ds.getD k 0), .pointer (some ⟨pb, 0, none⟩)] W fun e w' => e = .returned (.float .f32 (F k)) ∧ Dr W w') :
    Calls Try.prog 98 #[u, v, .func (.func 105) #[] #[.pointer (some ⟨pb, 0, none⟩)]] w fun e w' => NB e (msV SS cs.length) ∧ Dr w w' := by
  have HU := Lib.hid hu
  have HV := Lib.hid hv
  have HM := Lib.hid hm
  have HCC := Lib.hid hC
  obtain ⟨hl, hn96, hn1⟩ := two_len hm.ok
  have hfin : allFin cs = true ∧ allFin ds = true := by
    have hok := hm.ok
    simp only [twoOk, series, Bool.and_eq_true] at hok
    exact ⟨hok.1.1.2, hok.1.2.2⟩
  obtain ⟨ao, c, rfl, -, -, hg1⟩ := hu.get rfl
  obtain ⟨bo, d, rfl, -, -, hg2⟩ := hv.get hl.symm
  have HG1 := Lib.hid hg1
  have HG2 := Lib.hid hg2
  have HF := Lib.hid hfin
  have HLN := Lib.hid hl
  clear hu hv hg1 hg2 hfin hl hm hC
  go_enter Try.func98, Try.ntmps98
  go_wp2_with fail
  refine (i_areTwo _ _ cs ds _ HU.out.sl HV.out.sl).mono ?_; rintro e w1 ⟨rfl, n1, rfl⟩
  rw [HM.out.ok]
  go_wp2_with fail
  go_loopw [8, 17] (fun s i wr => ∃ k : Nat, k ≤ cs.length ∧ i = .int .i64 (k : Int) ∧ s = .float .f32 (SS k) ∧ ∃ n, wr = w.drewN n) (fun _ i _ => cs.length - (intOf i).toNat)
  case atStart => exact ⟨0, Nat.zero_le _, rfl, by rw [HM.out.zero], _, rfl⟩
  case round =>
    obtain ⟨k, hk, rfl, rfl, dn, rfl⟩ := hrel
    by_cases hlt : k < cs.length
    · obtain ⟨b1, o1, x, rfl, hbl1, hc1, hx, hcx⟩ := HG1.out k hlt
      obtain ⟨b2, o2, y, rfl, hbl2, hc2, hy, hcy⟩ := HG2.out k hlt
      have fx := fin_getD182 HF.out.1 k
      have fy := fin_getD182 HF.out.2 k
      obtain ⟨rfl, -⟩ := raw_of hcx fx
      obtain ⟨rfl, -⟩ := raw_of hcy fy
      have hD := HM.out.sub k hlt
      have hq := HM.out.no k hlt
      have hs := HM.out.sno k (by omega)
      have hs1 := HM.out.sno (k + 1) (by omega)
      have RUN1 := fun t w => run_arxT (P := Try.prog) .sub (cs.getD k 0) (ds.getD k 0) (subF (cs.getD k 0) (ds.getD k 0)) (by rw [cn_of_not (k := .f32) (fin_notNaN fx), cn_of_not (k := .f32) (fin_notNaN fy)]; rfl) hD t w
      have HC := Lib.hid (fun W (hc0 : W.cell? ⟨pb, 0, none⟩ = some (.float .f32 sh)) => HCC.out k hlt W hc0)
      have RUN2 := fun t w => run_arxT (P := Try.prog) .add (SS k) (F k) (SS (k + 1)) (by rw [cn_of_not (k := .f32) hs, cn_of_not (k := .f32) hq, HM.out.sum k hlt]; rfl) hs1 t w
      have HE := fun (args : Array Value) (w : World) => (show (callFunc 105 args).run Try.prog w = .ok (.enter 105 args) w by kernel_rfl)
      generalize hS1 : SS (k + 1) = s1 at *
      have HS1 := Lib.hid hS1
      clear hS1
      generalize SS k = s0 at *
      generalize F k = qq at *
      generalize subF (cs.getD k 0) (ds.getD k 0) = dd at *
      generalize cs.getD k 0 = xx at *
      generalize ds.getD k 0 = yy at *
      clear hcx hcy fx fy hD hq hs hs1
      go_wp2_with fail
      go_quiet ((go_at_call 105; first | exact quiet_dr (HC.out _ hcell) | exact quiet_dr2 (HC.out _ hcell)))
      go_wp2_with fail
      exact ⟨⟨k + 1, by omega, by go_num, by rw [HS1.out], _, rfl⟩, by simp [intOf]; omega⟩
    · obtain rfl : k = cs.length := by omega
      have HSN := Lib.hid (cn_of_not (k := .f32) (HM.out.sno cs.length (Nat.le_refl _)))
      have HMV := Lib.hid (show msV SS cs.length = numB (divF (SS cs.length) (fI cs.length)) from rfl)
      generalize SS cs.length = s0 at *
      go_wp2_with (first | (refine wpList_ar .f32 _ _ rfl rfl rfl ?_; intro r1 n1 hr1 hlt1))
      refine (i_ifFinite r1 hlt1 _).mono ?_; rintro e w5 ⟨⟨r2, b2, rfl, hr2, hr3, hb2⟩, n5, rfl⟩
      rw [HSN.out, show cn .f32 (floatOfInt .f32 (cs.length : Int)) = fI cs.length from cn_fI _] at hr1
      rw [hr1] at hr3 hb2
      go_wp2_with fail
      go_ret2
      exact ⟨⟨_, _, rfl, hr2, by rw [HMV.out]; exact hr3, by rw [HMV.out]; first | exact hb2 | rfl⟩, Dr.mk _ _⟩

end Go.Proofs.Ytkkomajokdlkeaa
