/- Contracts: numbers in hexadecimal, by the reference. -/
import Derived.Test.YtebahccjaieajaaDoorK91
import Derived.Test.YtebahccjaieajaaDoorK3
import Derived.Test.YtebahccjaieajaaDoorHx
namespace Go.Proofs.YtebahccjaieajaaDoor
set_option linter.unusedSimpArgs false
set_option linter.unusedVariables false
set_option maxRecDepth 100000
set_option maxHeartbeats 4000000
open Go.RowKit
attribute [local go_sem] run_store_float run_store_complex alloc_drewN setCell_drewN
theorem and15 (a : Nat) (ha : a < 9223372036854775808) : bits .and .i64 (a : Int) 15 = ((a % 16 : Nat) : Int) := by
  have h1 : (BitVec.ofInt 64 (a : Int)).toNat = a := by
    rw [BitVec.ofInt_natCast, BitVec.toNat_ofNat]; exact Nat.mod_eq_of_lt (by omega)
  have h2 : (BitVec.ofInt 64 (15 : Int)).toNat = 15 := by decide
  show IntKind.i64.wrap ((BitVec.ofInt 64 (a : Int) &&& BitVec.ofInt 64 15).toNat : Int) = _
  rw [BitVec.toNat_and, h1, h2, Nat.and_two_pow_sub_one_eq_mod a 4, IntKind.wrap_i64]
  omega
theorem hexIx (d : Nat) (hd : d < 16) (h) : ((⟨#[48, 49, 50, 51, 52, 53, 54, 55, 56, 57, 97, 98, 99, 100, 101, 102]⟩ : ByteArray)[d]'h).toNat = (hx d).toNat := by
  have h1 := hexDigits_at hd
  rw [List.getElem?_eq_getElem (by simpa [hexDigits] using hd)] at h1
  exact congrArg UInt8.toNat (Option.some.inj h1)

theorem s_l01Hex (x : Nat) (hx0 : x < 4294967296) (w : World) :
    Calls Tryd.prog 69 #[.float .f32 x] w fun e w' => e = .returned (.string (tx (hex8 (cn .f32 x)))) ∧ Below w.heap.size w w' := by
  have hn : cn .f32 x < 4294967296 := cn_lt hx0
  generalize hN : cn .f32 x = n at hn
  have HN := Lib.hid hN
  clear hN
  go_enter Tryd.func69, Tryd.ntmps69
  go_wp2_with fail
  refine (s_l01Bits x hx0 _).mono ?_; rintro e w1 ⟨rfl, hd⟩
  rw [HN.out]
  have hb1 := hd.below w.heap.size
  have hz1 := hb1.size
  go_wp2_with fail
  go_loopw [4, 5] (fun o k wr => ∃ (j : Nat), j ≤ 8 ∧ k = .int .i64 (28 - 4 * (j : Int)) ∧ (∃ b c, o = .slice (some ⟨b, 0, none⟩) j c) ∧ Hid (GO byV 5 w.heap.size wr o (hexM j (n / 16 ^ (8 - j)))) ∧ Below w.heap.size w wr) (fun o _ _ => 9 - lenOf o)
  case atStart => exact ⟨0, by omega, rfl, ⟨_, _, rfl⟩, GO.empty _ _ rfl hz1, hb1.alloc hz1 _⟩
  case round =>
    obtain ⟨j, hj, rfl, ⟨b, c, rfl⟩, HO, hb⟩ := hrel
    have hsz := hb.size
    by_cases hj8 : j = 8
    · subst hj8
      have RS := run_str oneU8T Tryd.underlying9 Tryd.underlying5 HO.out (by simp [hexM])
      go_wp2_with fail
      go_ret
      refine ⟨?_, hb⟩
      simp [hex8, tx]
    · have hj7 : j < 8 := by omega
      have HS := Lib.hid (hexM_step n j hj7)
      obtain ⟨d, hdd⟩ : ∃ d, d = n / 16 ^ (7 - j) % 16 := ⟨_, rfl⟩
      have hd16 : d < 16 := by rw [hdd]; exact Nat.mod_lt _ (by decide)
      have hix : ∀ h, ((⟨#[48, 49, 50, 51, 52, 53, 54, 55, 56, 57, 97, 98, 99, 100, 101, 102]⟩ : ByteArray)[d]'h).toNat = (hx d).toNat := fun h => hexIx d hd16 h
      have hbt : bits .and .i64 ((n / 16 ^ (7 - j) : Nat) : Int) 15 = (d : Int) := by
        rw [and15 _ (Nat.lt_of_le_of_lt (Nat.div_le_self _ _) (by omega)), hdd]
      have HDD := Lib.hid hdd
      clear hdd
      obtain rfl | rfl | rfl | rfl | rfl | rfl | rfl | rfl : j = 0 ∨ j = 1 ∨ j = 2 ∨ j = 3 ∨ j = 4 ∨ j = 5 ∨ j = 6 ∨ j = 7 := by omega
      all_goals simp only [Nat.reduceSub, Nat.reducePow, Int.natCast_ediv, Int.cast_ofNat_Int, Int.cast_ofNat_Int, Int.natCast_one, Int.ediv_one] at hbt
      all_goals have HLI := Lib.hid (GO.lit2 byV 5 w.heap.size wr [hx d] rfl rfl rfl hsz (by simp))
      · go_wp2_with (at_builtin; refine wpList_gapp (inj := byV) oneU8T byV_one w.heap.size _ _ rfl (GO.alloc HO.out _) [hx d] _ 1 rfl rfl (by intro i u hu; cases i with | zero => (simp only [List.getElem?_cons_zero, Option.some.injEq] at hu; subst hu; simp [byV]) | succ i => simp at hu) (by rw [hexM_length]; simp) (by simp; omega) ?_; intro v2 w2 hown2 hg2; have HO2 := Lib.hid hown2; have HG2 := Lib.hid hg2; clear hown2 hg2)
        have e : (hexM 0 (n / 16 ^ (8 - 0)) ++ [hx d]).length = 0 + 1 := by rw [List.length_append, hexM_length]; rfl
        obtain ⟨b2, c2, hv⟩ := HO2.out.addr (by simp)
        rw [e] at hv
        subst hv
        have h3 := HS.out
        rw [← HDD.out] at h3
        have h4 := HO2.out
        rw [← h3] at h4
        exact ⟨⟨0 + 1, by omega, by rfl, ⟨_, _, rfl⟩, h4, (hb.alloc hsz _).grown HG2.out (by simp; omega) HO.out.own_ge⟩, by simp [lenOf]⟩
      · go_wp2_with (at_builtin; refine wpList_gapp (inj := byV) oneU8T byV_one w.heap.size _ _ rfl (GO.alloc HO.out _) [hx d] _ 1 rfl rfl (by intro i u hu; cases i with | zero => (simp only [List.getElem?_cons_zero, Option.some.injEq] at hu; subst hu; simp [byV]) | succ i => simp at hu) (by rw [hexM_length]; simp) (by simp; omega) ?_; intro v2 w2 hown2 hg2; have HO2 := Lib.hid hown2; have HG2 := Lib.hid hg2; clear hown2 hg2)
        have e : (hexM 1 (n / 16 ^ (8 - 1)) ++ [hx d]).length = 1 + 1 := by rw [List.length_append, hexM_length]; rfl
        obtain ⟨b2, c2, hv⟩ := HO2.out.addr (by simp)
        rw [e] at hv
        subst hv
        have h3 := HS.out
        rw [← HDD.out] at h3
        have h4 := HO2.out
        rw [← h3] at h4
        exact ⟨⟨1 + 1, by omega, by rfl, ⟨_, _, rfl⟩, h4, (hb.alloc hsz _).grown HG2.out (by simp; omega) HO.out.own_ge⟩, by simp [lenOf]⟩
      · go_wp2_with (at_builtin; refine wpList_gapp (inj := byV) oneU8T byV_one w.heap.size _ _ rfl (GO.alloc HO.out _) [hx d] _ 1 rfl rfl (by intro i u hu; cases i with | zero => (simp only [List.getElem?_cons_zero, Option.some.injEq] at hu; subst hu; simp [byV]) | succ i => simp at hu) (by rw [hexM_length]; simp) (by simp; omega) ?_; intro v2 w2 hown2 hg2; have HO2 := Lib.hid hown2; have HG2 := Lib.hid hg2; clear hown2 hg2)
        have e : (hexM 2 (n / 16 ^ (8 - 2)) ++ [hx d]).length = 2 + 1 := by rw [List.length_append, hexM_length]; rfl
        obtain ⟨b2, c2, hv⟩ := HO2.out.addr (by simp)
        rw [e] at hv
        subst hv
        have h3 := HS.out
        rw [← HDD.out] at h3
        have h4 := HO2.out
        rw [← h3] at h4
        exact ⟨⟨2 + 1, by omega, by rfl, ⟨_, _, rfl⟩, h4, (hb.alloc hsz _).grown HG2.out (by simp; omega) HO.out.own_ge⟩, by simp [lenOf]⟩
      · go_wp2_with (at_builtin; refine wpList_gapp (inj := byV) oneU8T byV_one w.heap.size _ _ rfl (GO.alloc HO.out _) [hx d] _ 1 rfl rfl (by intro i u hu; cases i with | zero => (simp only [List.getElem?_cons_zero, Option.some.injEq] at hu; subst hu; simp [byV]) | succ i => simp at hu) (by rw [hexM_length]; simp) (by simp; omega) ?_; intro v2 w2 hown2 hg2; have HO2 := Lib.hid hown2; have HG2 := Lib.hid hg2; clear hown2 hg2)
        have e : (hexM 3 (n / 16 ^ (8 - 3)) ++ [hx d]).length = 3 + 1 := by rw [List.length_append, hexM_length]; rfl
        obtain ⟨b2, c2, hv⟩ := HO2.out.addr (by simp)
        rw [e] at hv
        subst hv
        have h3 := HS.out
        rw [← HDD.out] at h3
        have h4 := HO2.out
        rw [← h3] at h4
        exact ⟨⟨3 + 1, by omega, by rfl, ⟨_, _, rfl⟩, h4, (hb.alloc hsz _).grown HG2.out (by simp; omega) HO.out.own_ge⟩, by simp [lenOf]⟩
      · go_wp2_with (at_builtin; refine wpList_gapp (inj := byV) oneU8T byV_one w.heap.size _ _ rfl (GO.alloc HO.out _) [hx d] _ 1 rfl rfl (by intro i u hu; cases i with | zero => (simp only [List.getElem?_cons_zero, Option.some.injEq] at hu; subst hu; simp [byV]) | succ i => simp at hu) (by rw [hexM_length]; simp) (by simp; omega) ?_; intro v2 w2 hown2 hg2; have HO2 := Lib.hid hown2; have HG2 := Lib.hid hg2; clear hown2 hg2)
        have e : (hexM 4 (n / 16 ^ (8 - 4)) ++ [hx d]).length = 4 + 1 := by rw [List.length_append, hexM_length]; rfl
        obtain ⟨b2, c2, hv⟩ := HO2.out.addr (by simp)
        rw [e] at hv
        subst hv
        have h3 := HS.out
        rw [← HDD.out] at h3
        have h4 := HO2.out
        rw [← h3] at h4
        exact ⟨⟨4 + 1, by omega, by rfl, ⟨_, _, rfl⟩, h4, (hb.alloc hsz _).grown HG2.out (by simp; omega) HO.out.own_ge⟩, by simp [lenOf]⟩
      · go_wp2_with (at_builtin; refine wpList_gapp (inj := byV) oneU8T byV_one w.heap.size _ _ rfl (GO.alloc HO.out _) [hx d] _ 1 rfl rfl (by intro i u hu; cases i with | zero => (simp only [List.getElem?_cons_zero, Option.some.injEq] at hu; subst hu; simp [byV]) | succ i => simp at hu) (by rw [hexM_length]; simp) (by simp; omega) ?_; intro v2 w2 hown2 hg2; have HO2 := Lib.hid hown2; have HG2 := Lib.hid hg2; clear hown2 hg2)
        have e : (hexM 5 (n / 16 ^ (8 - 5)) ++ [hx d]).length = 5 + 1 := by rw [List.length_append, hexM_length]; rfl
        obtain ⟨b2, c2, hv⟩ := HO2.out.addr (by simp)
        rw [e] at hv
        subst hv
        have h3 := HS.out
        rw [← HDD.out] at h3
        have h4 := HO2.out
        rw [← h3] at h4
        exact ⟨⟨5 + 1, by omega, by rfl, ⟨_, _, rfl⟩, h4, (hb.alloc hsz _).grown HG2.out (by simp; omega) HO.out.own_ge⟩, by simp [lenOf]⟩
      · go_wp2_with (at_builtin; refine wpList_gapp (inj := byV) oneU8T byV_one w.heap.size _ _ rfl (GO.alloc HO.out _) [hx d] _ 1 rfl rfl (by intro i u hu; cases i with | zero => (simp only [List.getElem?_cons_zero, Option.some.injEq] at hu; subst hu; simp [byV]) | succ i => simp at hu) (by rw [hexM_length]; simp) (by simp; omega) ?_; intro v2 w2 hown2 hg2; have HO2 := Lib.hid hown2; have HG2 := Lib.hid hg2; clear hown2 hg2)
        have e : (hexM 6 (n / 16 ^ (8 - 6)) ++ [hx d]).length = 6 + 1 := by rw [List.length_append, hexM_length]; rfl
        obtain ⟨b2, c2, hv⟩ := HO2.out.addr (by simp)
        rw [e] at hv
        subst hv
        have h3 := HS.out
        rw [← HDD.out] at h3
        have h4 := HO2.out
        rw [← h3] at h4
        exact ⟨⟨6 + 1, by omega, by rfl, ⟨_, _, rfl⟩, h4, (hb.alloc hsz _).grown HG2.out (by simp; omega) HO.out.own_ge⟩, by simp [lenOf]⟩
      · go_wp2_with (at_builtin; refine wpList_gapp (inj := byV) oneU8T byV_one w.heap.size _ _ rfl (GO.alloc HO.out _) [hx d] _ 1 rfl rfl (by intro i u hu; cases i with | zero => (simp only [List.getElem?_cons_zero, Option.some.injEq] at hu; subst hu; simp [byV]) | succ i => simp at hu) (by rw [hexM_length]; simp) (by simp; omega) ?_; intro v2 w2 hown2 hg2; have HO2 := Lib.hid hown2; have HG2 := Lib.hid hg2; clear hown2 hg2)
        have e : (hexM 7 (n / 16 ^ (8 - 7)) ++ [hx d]).length = 7 + 1 := by rw [List.length_append, hexM_length]; rfl
        obtain ⟨b2, c2, hv⟩ := HO2.out.addr (by simp)
        rw [e] at hv
        subst hv
        have h3 := HS.out
        rw [← HDD.out] at h3
        have h4 := HO2.out
        rw [← h3] at h4
        exact ⟨⟨7 + 1, by omega, by rfl, ⟨_, _, rfl⟩, h4, (hb.alloc hsz _).grown HG2.out (by simp; omega) HO.out.own_ge⟩, by simp [lenOf]⟩

end Go.Proofs.YtebahccjaieajaaDoor
