/- Motifs: the least of a list and where it is. -/
import Derived.Test.YtnhenklopigfnaaMn
namespace Go.Proofs.Ytnhenklopigfnaa
set_option linter.unusedSimpArgs false
set_option linter.unusedVariables false
set_option maxRecDepth 100000
set_option maxHeartbeats 4000000
set_option linter.unusedSimpArgs false
set_option linter.unusedVariables false
open Go.RowKit
attribute [local go_sem] run_store_float run_store_complex alloc_drewN setCell_drewN

def mtEnd (L : List Nat) (A : List Int) : Int × Int × Nat × Bool := ((bigAt .lss L L.length : Int), A.getD (bigAt .lss L L.length) 0, L.getD (bigAt .lss L L.length) 0, true)
def mtQ (cs : List Nat) (long : Int) : Int × Int × Nat × Bool := if (pfQ cs long).2.2 then mtEnd (pfQ cs long).1 (pfQ cs long).2.1 else (0, 0, 0, false)
theorem mtQ_no {cs : List Nat} {long : Int} (h : (pfQ cs long).2.2 = false) : mtQ cs long = (0, 0, 0, false) := by rw [mtQ, h]; rfl
theorem mtQ_yes {cs : List Nat} {long : Int} (h : (pfQ cs long).2.2 = true) : mtQ cs long = mtEnd (pfQ cs long).1 (pfQ cs long).2.1 := by rw [mtQ, h]; rfl
theorem pfQ_fin {cs : List Nat} {long : Int} (h : (pfQ cs long).2.2 = true) : allFin (pfQ cs long).1 = true := by
  unfold pfQ at h ⊢
  split at h
  · rename_i h1
    rw [if_pos h1]
    split at h
    · rename_i h3
      rw [if_pos h3]
      unfold pfEnd at h ⊢
      split at h
      · rename_i h4
        rw [if_pos h4]
        simp only [Bool.and_eq_true] at h4
        exact h4.2
      · cases h
    · cases h
  · cases h
def ME (e : Ending) (q : Int × Int × Nat × Bool) : Prop := ∃ n m r b, e = .returned (.tuple #[.int .i64 n, .int .i64 m, .float .f32 r, .bool b]) ∧ r < 4294967296 ∧ n = q.1 ∧ m = q.2.1 ∧ cn .f32 r = q.2.2.1 ∧ b = q.2.2.2
theorem ME.no {q : Int × Int × Nat × Bool} (hq : q = (0, 0, 0, false)) : ME (.returned (.tuple #[.int .i64 0, .int .i64 0, .float .f32 0, .bool false])) q := by
  subst hq; exact ⟨_, _, _, _, rfl, by omega, rfl, rfl, cn0, rfl⟩
theorem SB.lt {w : World} {v : Value} {cs : List Nat} (h : SB w v cs) : ∀ i, i < cs.length → cs.getD i 0 < 4294967296 := by
  obtain ⟨ao, c, xs, rfl, rfl, h3, h5, h4⟩ := h
  intro i hi
  have hi' : i < xs.length := by simpa using hi
  have e : (xs.map (cn .f32)).getD i 0 = cn .f32 xs[i] := by simp [hi']
  rw [e]
  exact cn_lt (h5 _ (List.getElem_mem hi'))
theorem allFin_at {cs : List Nat} (h : allFin cs = true) {i : Nat} (hi : i < cs.length) : fin (cs.getD i 0) = true := by
  have e : cs.getD i 0 = cs[i] := by simp [hi]
  rw [e]
  simp only [allFin, List.all_eq_true] at h
  exact h _ (List.getElem_mem hi)
/-- Where the least number is first. -/
theorem mt_ahead {L : List Nat} (hlt : ∀ i, i < L.length → L.getD i 0 < 4294967296) (hf : allFin L = true) (h0 : 0 < L.length) {m : Nat} (hm : m = bigAt .lss L L.length) :
    (∀ i, i < m → fc .eql .f32 (cn .f32 (mnAt L (L.length - 1))) (L.getD i 0) = false) ∧ fc .eql .f32 (cn .f32 (mnAt L (L.length - 1))) (L.getD m 0) = true := by
  have hfi : ∀ i, i < L.length → fin (L.getD i 0) = true := fun i hi => allFin_at hf hi
  obtain ⟨⟨b1, b2⟩, b3, b4, b5, b6⟩ := mn_best hlt hfi (L.length - 1) (by omega)
  rw [show L.length - 1 + 1 = L.length by omega, ← hm] at b3 b4 b5 b6
  have hc : cn .f32 (mnAt L (L.length - 1)) = mnAt L (L.length - 1) := cn_of_not (k := .f32) (fin_notNaN b2)
  rw [hc]
  refine ⟨fun i hi => ?_, ?_⟩
  · rw [fce_key b1 (hlt i (by omega)) b2 (hfi i (by omega)), b3]
    exact decide_eq_false (by have := b5 i hi; omega)
  · rw [fce_key b1 (hlt m (by omega)) b2 (hfi m (by omega)), b3]
    exact decide_eq_true rfl

theorem f_Min (v : Value) (cs : List Nat) (w : World) (hv : SB w v cs) (h0 : 0 < cs.length) (hf : allFin cs = true) :
    Calls Try.prog 115 #[v] w fun e w' => e = .returned (.float .f32 (mnAt cs (cs.length - 1))) ∧ Dr w w' := by
  have hlt := hv.lt
  have hfi : ∀ i, i < cs.length → fin (cs.getD i 0) = true := fun i hi => allFin_at hf hi
  obtain ⟨ao, c, rfl, hc1, hc2, hget⟩ := hv.getX2 rfl
  have HB := Lib.hid (fun k (hk : k < cs.length) => (mn_best hlt hfi k hk).1)
  have HG := Lib.hid hget
  have HF := Lib.hid hfi
  clear hget hv hf hlt hfi
  obtain ⟨b, off, x0, rfl, hbl, hc, hx, hcx⟩ := HG.out 0 h0
  have HE0 := Lib.hid (show x0 = mnAt cs 0 from (raw_of hcx (HF.out 0 h0)).1)
  rw [Nat.add_zero] at hc
  clear hcx
  have h00 : (0 : Int) < (cs.length : Int) := by omega
  have h01 : ¬ (cs.length : Int) < 1 := by omega
  go_enter Try.func115, Try.ntmps115
  go_wp2_with fail
  go_loopw [3, 4] (fun s i wr => ∃ k : Nat, k < cs.length ∧ i = .int .i64 ((k : Int) + 1) ∧ s = .float .f32 (mnAt cs k) ∧ ∃ d, wr = w.drewN d) (fun _ i _ => cs.length + 1 - (intOf i).toNat)
  case atStart => exact ⟨0, h0, rfl, by rw [HE0.out], 0, rfl⟩
  case round =>
    obtain ⟨k, hk, rfl, rfl, dn, rfl⟩ := hrel
    by_cases hlt : k + 1 < cs.length
    · obtain ⟨b2, off2, x, e2, hbl2, hd, hy, hcy⟩ := HG.out (k + 1) hlt
      simp only [Option.some.injEq, Addr.mk.injEq, and_true] at e2
      obtain ⟨rfl, rfl⟩ := e2
      have e1 := raw_of hcy (HF.out (k + 1) hlt)
      have hp := HB.out k hk
      have hmn := fun (ts : Array TypeId) (t : TypeId) (w : World) => run_mn (P := Try.prog) ts t (mnAt cs k) x (fin_notNaN hp.2) e1.2 w
      have HE := Lib.hid (show mn (mnAt cs k) x = mnAt cs (k + 1) by rw [e1.1]; rfl)
      clear hcy e1
      obtain ⟨p, hpp⟩ : ∃ p, p = mnAt cs k := ⟨_, rfl⟩
      rw [← hpp] at hmn HE ⊢
      clear hpp hp
      have j1 : (k : Int) + 1 < (cs.length : Int) := by omega
      have j2 : (0 : Int) ≤ (k : Int) + 1 := by omega
      have j3 : ((k : Int) + 1).toNat = k + 1 := by omega
      have j4 : IntKind.i64.wrap ((k : Int) + 1 + 1) = (k : Int) + 1 + 1 := by rw [IntKind.wrap_i64]; omega
      go_wp2_with fail
      refine ⟨⟨k + 1, hlt, by go_num, ?_, _, rfl⟩, by simp [intOf]; omega⟩
      rw [HE.out]
    · have j1 : ¬ (k : Int) + 1 < (cs.length : Int) := by omega
      go_wp2_with fail
      go_ret
      have e : cs.length - 1 = k := by omega
      refine ⟨?_, _, rfl⟩
      show Ending.returned (.float .f32 (mnAt cs k)) = _
      rw [e]

theorem f_Index (v : Value) (cs : List Nat) (r k : Nat) (w : World) (hv : SB w v cs) (hk : k < cs.length) (h1 : ∀ i, i < k → fc .eql .f32 (cn .f32 r) (cs.getD i 0) = false) (h2 : fc .eql .f32 (cn .f32 r) (cs.getD k 0) = true) :
    Calls Try.prog 114 #[v, .float .f32 r] w fun e w' => e = .returned (.int .i64 (k : Nat)) ∧ Dr w w' := by
  obtain ⟨ao, c, rfl, hc1, hc2, hget⟩ := hv.getX2 rfl
  have HG := Lib.hid hget
  have H1 := Lib.hid h1
  have H2 := Lib.hid h2
  clear hget hv h1 h2
  go_enter Try.func114, Try.ntmps114
  go_wp2_with fail
  go_loopw [8] (fun i wr => ∃ j : Nat, j ≤ k ∧ i = .int .i64 (j : Int) ∧ ∃ d, wr = w.drewN d) (fun i _ => cs.length - (intOf i).toNat)
  case atStart => exact ⟨0, Nat.zero_le _, rfl, 0, rfl⟩
  case round =>
    obtain ⟨j, hj, rfl, dn, rfl⟩ := hrel
    obtain ⟨b, off, x, rfl, hbl, hc, hx, hcx⟩ := HG.out j (by omega)
    have j1 : (j : Int) < (cs.length : Int) := by omega
    by_cases hlt : j < k
    · have h := H1.out j hlt
      rw [← hcx] at h
      have HX := Lib.hid h
      clear h hcx
      go_wp2_with (first | (refine wpList_fc .f32 _ _ rfl rfl rfl ?_; rw [HX.out]))
      exact ⟨⟨j + 1, hlt, by go_num, _, rfl⟩, by simp [intOf]; omega⟩
    · obtain rfl : k = j := by omega
      have h := H2.out
      rw [← hcx] at h
      have HX := Lib.hid h
      clear h hcx
      go_wp2_with (first | (refine wpList_fc .f32 _ _ rfl rfl rfl ?_; rw [HX.out]))
      go_ret
      exact ⟨rfl, _, rfl⟩
theorem order_of_lss {x y : Nat} {b : Bool} (h : fc .lss .f32 (cn .f32 x) (cn .f32 y) = b) : (FloatKind.f32.format.order x y == some .lt) = b := by
  rw [← h]
  show _ = (FloatKind.f32.format.order _ _ == some .lt)
  rw [order_cn]
theorem gl_get {w : World} {v : Value} {xs : List Int} (h : GL (Value.int .i64) w v xs) {n : Nat} (hn : xs.length = n) : ∃ ao c, v = .slice ao n c ∧ ∀ i, i < n → ∃ b off, ao = some ⟨b, off, none⟩ ∧ b < w.heap.size ∧ w.cell? ⟨b, off + i, none⟩ = some (.int .i64 (xs.getD i 0)) := by
  obtain ⟨ao, c, rfl, hc, hget⟩ := h
  subst hn
  refine ⟨ao, c, rfl, fun i hi => ?_⟩
  obtain ⟨b, off, e1, e2, e3⟩ := hget i hi
  exact ⟨b, off, e1, e2, by rw [e3]; simp [hi]⟩

theorem i_MotifOf (v : Value) (cs : List Nat) (long : Int) (w : World) (hv : SB w v cs) :
    Calls Try.prog 55 #[v, .int .i64 long] w fun e w' => ME e (mtQ cs long) ∧ Below w.heap.size w w' := by
  have HV := Lib.hid hv
  clear hv
  cases hp : (pfQ cs long).2.2
  · have HP := Lib.hid hp
    have HQ := Lib.hid (mtQ_no hp)
    clear hp
    go_enter Try.func55, Try.ntmps55
    go_wp2_with (go_at_call 54; refine (i_ProfileOf _ cs long _ HV.out).mono ?_; rintro z w1 ⟨⟨u, u2, b1, rfl, ho, ho2, hb⟩, hb1⟩; rw [HP.out] at hb; subst hb; clear ho ho2)
    (try simp only [Exit.inBlock, Exit.then])
    refine bodyPost_ret (by simp [results, Try.results55, go_sem]; try rfl) rfl ?_
    exact ⟨ME.no HQ.out, by (repeat (first | with_reducible exact Below.refl _ _ | with_reducible assumption | with_reducible refine below_drewN ?_ _ | with_reducible refine Below.drew ?_ | with_reducible refine Below.alloc ?_ (by first | omega | (simp; omega) | (simp; done) | (simp at *; omega)) _ | with_reducible refine Below.setCell ?_ (by first | omega | (simp; omega) | (simp; done) | (simp at *; omega)) _ | refine Below.trans ?_ (Below.mono (by with_reducible assumption) (by first | omega | (simp; omega) | (simp; done) | (simp at *; omega)))))⟩
  · have HQ := Lib.hid (mtQ_yes hp)
    obtain ⟨h0, hA⟩ := pfQ_pos hp
    have hfin := pfQ_fin hp
    have HP := Lib.hid hp
    clear hp
    obtain ⟨L, hL⟩ : ∃ L, L = (pfQ cs long).1 := ⟨_, rfl⟩
    obtain ⟨A, hAA⟩ : ∃ A, A = (pfQ cs long).2.1 := ⟨_, rfl⟩
    rw [← hL] at h0 HQ hA hfin
    rw [← hAA] at HQ hA
    have HL := Lib.hid hL
    have HAA := Lib.hid hAA
    have HFIN := Lib.hid hfin
    have HA := Lib.hid hA
    clear hL hAA hfin hA
    have hml := bigAt_lt .lss L h0 (Nat.le_refl _)
    obtain ⟨m, hm⟩ : ∃ m, m = bigAt .lss L L.length := ⟨_, rfl⟩
    rw [← hm] at hml
    have HM := Lib.hid hm
    clear hm
    have h01 : (m : Int) < (L.length : Int) := by omega
    go_enter Try.func55, Try.ntmps55
    go_wp2_with (first
      | (go_at_call 54; refine (i_ProfileOf _ cs long _ HV.out).mono ?_; rintro z w1 ⟨⟨u, u2, b1, rfl, ho, ho2, hb⟩, hb1⟩; rw [HP.out] at hb; subst hb; rw [← HL.out] at ho; rw [← HAA.out] at ho2; obtain ⟨uo, uc, rfl, hu1, hu2, huget⟩ := ho.sb.getX2 rfl; obtain ⟨bu, ou, x, rfl, hbl, hcx, hx, hxx⟩ := huget m hml; obtain ⟨ao, ac, rfl, haget⟩ := gl_get ho2.gl HA.out; obtain ⟨ba, oa, rfl, hbla, hca⟩ := haget m hml; have HO := Lib.hid ho.sb; have HX := Lib.hid hxx; clear ho ho2 huget haget hxx)
      | (go_at_call 115; refine (f_Min _ L _ HO.out h0 HFIN.out).mono ?_; rintro z w2 ⟨rfl, n2, rfl⟩)
      | (go_at_call 114; refine (f_Index _ L _ m _ (HO.out.drewN _) hml (mt_ahead HO.out.lt HFIN.out h0 HM.out).1 (mt_ahead HO.out.lt HFIN.out h0 HM.out).2).mono ?_; rintro z w3 ⟨rfl, n3, rfl⟩))
    go_region_with fail
    all_goals
      go_wp2_with fail
      (try simp only [Exit.inBlock, Exit.then])
      refine bodyPost_ret (by simp [results, Try.results55, go_sem]; try rfl) rfl ?_
      refine ⟨⟨_, _, _, _, rfl, hx, ?_, ?_, ?_, ?_⟩, by (repeat (first | with_reducible exact Below.refl _ _ | with_reducible assumption | with_reducible refine below_drewN ?_ _ | with_reducible refine Below.drew ?_ | with_reducible refine Below.alloc ?_ (by first | omega | (simp; omega) | (simp; done) | (simp at *; omega)) _ | with_reducible refine Below.setCell ?_ (by first | omega | (simp; omega) | (simp; done) | (simp at *; omega)) _ | refine Below.trans ?_ (Below.mono (by with_reducible assumption) (by first | omega | (simp; omega) | (simp; done) | (simp at *; omega)))))⟩
      · rw [HQ.out, mtEnd, HM.out]
      · rw [HQ.out, mtEnd, HM.out]; simp
      · rw [HX.out, HQ.out, mtEnd, HM.out]
      · rw [HQ.out]; rfl

end Go.Proofs.Ytnhenklopigfnaa
