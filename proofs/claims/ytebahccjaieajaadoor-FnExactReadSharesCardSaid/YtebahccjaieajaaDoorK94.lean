/- Contracts: RecoverJournal by the reference. -/
import Derived.Test.YtebahccjaieajaaDoorK93
namespace Go.Proofs.YtebahccjaieajaaDoor
set_option linter.unusedSimpArgs false
set_option linter.unusedVariables false
set_option maxRecDepth 100000
set_option maxHeartbeats 4000000
open Go.RowKit
attribute [local go_sem] run_store_float run_store_complex alloc_drewN setCell_drewN

theorem indexByte_first (c : UInt8) : ∀ {a : List UInt8} (r : List UInt8), c ∉ a → Lib.indexByte (a ++ c :: r) c = a.length
  | [], r, _ => by simp [Lib.indexByte]
  | b :: a, r, h => by
    have h1 : b ≠ c := fun e => h (by simp [e])
    have h2 : c ∉ a := fun e => h (by simp [e])
    rw [List.cons_append, Lib.indexByte, indexByte_first c r h2]
    have h3 : (b == c) = false := beq_eq_false_iff_ne.2 h1
    rw [h3]
    simp only [Bool.false_eq_true, if_false, List.length_cons]
    rw [if_neg (by rw [beq_iff_eq]; omega)]
    omega
theorem indexByte_miss (c : UInt8) : ∀ {a : List UInt8}, c ∉ a → Lib.indexByte a c = -1
  | [], _ => rfl
  | b :: a, h => by
    have h1 : b ≠ c := fun e => h (by simp [e])
    have h2 : c ∉ a := fun e => h (by simp [e])
    have h3 : (b == c) = false := beq_eq_false_iff_ne.2 h1
    rw [Lib.indexByte, indexByte_miss c h2, h3]
    rfl
theorem cut_at {a r : List UInt8} {c : UInt8} (h : c ∉ a) : Lib.cut (a ++ c :: r) [c] = (a, r, true) := by
  rw [Lib.cut, Lib.index_one, indexByte_first c r h, if_pos (by omega)]
  simp
theorem cut_none {a : List UInt8} {c : UInt8} (h : c ∉ a) : Lib.cut a [c] = (a, [], false) := by
  rw [Lib.cut, Lib.index_one, indexByte_miss c h, if_neg (by omega)]
theorem cutC_mem_len (c : UInt8) : ∀ (l : List UInt8) {x : List UInt8}, x ∈ cutC c l → x.length ≤ l.length
  | [], x, h => by simp only [cutC, List.mem_singleton] at h; simp [h]
  | b :: l, x, h => by
    rw [cutC] at h
    by_cases hb : b = c
    · rw [if_pos hb] at h
      rcases List.mem_cons.1 h with h | h
      · simp [h]
      · have := cutC_mem_len c l h; simp only [List.length_cons]; omega
    · rw [if_neg hb] at h
      cases hc : cutC c l with
      | nil => exact absurd hc (cutC_ne c l)
      | cons y t =>
        rw [hc] at h
        rcases List.mem_cons.1 h with h | h
        · subst h
          have := cutC_mem_len c l (x := y) (by rw [hc]; simp)
          simp only [List.length_cons]; omega
        · have := cutC_mem_len c l (x := x) (by rw [hc]; simp [h])
          simp only [List.length_cons]; omega
theorem split_at {s : ByteArray} {m : Nat} (hm : m < s.size) {c : UInt8} (h : s[m] = c) : s.data.toList = s.data.toList.take m ++ c :: s.data.toList.drop (m + 1) := by
  rw [← h, ← data_at s hm, List.getElem_cons_drop, List.take_append_drop]
theorem piece_to (s : ByteArray) (m : Nat) : s.extract 0 m = tx (s.data.toList.take m) := by rw [tx_piece]; simp
theorem piece_from (s : ByteArray) (m : Nat) : s.extract m s.size = tx (s.data.toList.drop m) := by
  rw [tx_piece, List.take_of_length_le (by rw [List.length_drop, data_len]; exact Nat.le_refl _)]
/-- How far the recovery has come. -/
def RcAt (all : List (List UInt8) × Nat) (rest : List (List UInt8)) (ck : Int) (done : List (List UInt8)) (n : Nat) : Prop := all = (done ++ (rcv ck rest).1, n + (rcv ck rest).2)
theorem RcAt.start (ls : List (List UInt8)) : RcAt (rcv 0 ls) ls 0 [] 0 := by simp [RcAt]
theorem RcAt.stop {all : List (List UInt8) × Nat} {rest : List (List UInt8)} {ck : Int} {done : List (List UInt8)} {n : Nat} (h : RcAt all rest ck done n) (h2 : rcv ck rest = ([], 0)) : all = (done, n) := by rw [h, h2]; simp
theorem RcAt.step {all : List (List UInt8) × Nat} {l w x : List UInt8} {ls : List (List UInt8)} {ck : Int} {done : List (List UInt8)} {n : Nat} (h : RcAt all (l :: ls) ck done n) (h1 : Lib.cut l [32] = (w, x, true)) (h2 : w = Lib.itoa (ckL ck x)) : RcAt all ls (ckL ck x) (done ++ [x]) (n + (l.length + 1)) := by
  rw [RcAt, h, rcv_hit h1 h2, List.append_assoc]
  simp only [List.singleton_append, Prod.mk.injEq, true_and]
  omega

set_option maxRecDepth 100000 in
theorem s_l08Recover (t : ByteArray) (hs : t.size ≤ 1000000000) (w : World) :
    Calls Tryd.prog 40 #[.string t] w fun e w' => ∃ u, e = .returned (.tuple #[u, .int .i64 ((rcvT 0 t.data.toList).2 : Nat)]) ∧ GO Value.string 9 w.heap.size w' u ((rcvT 0 t.data.toList).1.map tx) ∧ Below w.heap.size w w' := by
  have mixed : Tryd.prog.follows .mixedOrders = true := by kernel_rfl
  obtain ⟨all, hall⟩ : ∃ all, all = rcvT 0 t.data.toList := ⟨_, rfl⟩
  rw [← hall]
  go_enter Tryd.func40, Tryd.ntmps40
  go_wp2_with fail
  refine (s_l08Lines t hs _).mono ?_; rintro e w1 ⟨b, c, K, LL, hK, -, rfl, hv, hb⟩
  have hR : all = rcv 0 (cutC 10 t.data.toList).dropLast := hall
  have hlen : ∀ x ∈ (cutC 10 t.data.toList).dropLast, x.length ≤ 1000000000 := fun x hx => by
    have := cutC_mem_len 10 _ (List.dropLast_subset _ hx)
    rw [data_len] at this
    omega
  have hKb : K ≤ 1000000001 := by
    have := cutC_le 10 t.data.toList
    rw [data_len] at this
    rw [hK, List.length_dropLast]
    omega
  obtain ⟨ls, hls⟩ : ∃ ls, ls = (cutC 10 t.data.toList).dropLast := ⟨_, rfl⟩
  rw [← hls] at hK hv hlen hR
  have HA := Lib.hid (show RcAt all ls 0 [] 0 by rw [hR]; exact RcAt.start ls)
  clear hls hR hall
  obtain ⟨ao, c', e1, hc12, hcell⟩ := hv
  injection e1 with e1 e2 e3
  subst e1 e3
  have HC := Lib.hid hcell
  have HK := Lib.hid hK
  have HL := Lib.hid hlen
  clear hcell hK e2 hlen
  go_wp2_with fail
  go_loopw [6, 7, 8, 9] (fun o q n i wr => ∃ (k m : Nat) (ck : Int) (done : List (List UInt8)), k ≤ K ∧ i = .int .i64 k ∧ q = .int .i64 ck ∧ (0 ≤ ck ∧ ck < 65003) ∧ n = .int .i64 m ∧ m ≤ k * 1000000001 ∧ done.length ≤ k ∧ Hid (GO Value.string 9 w1.heap.size wr o (done.map tx)) ∧ Hid (RcAt all (ls.drop k) ck done m) ∧ Below w1.heap.size w1 wr) (fun _ _ _ i _ => K - (intOf i).toNat)
  case atStart => exact ⟨0, 0, 0, [], Nat.zero_le _, rfl, rfl, ⟨Int.le_refl _, by decide⟩, rfl, Nat.le_refl _, Nat.le_refl _, GO.empty _ _ rfl (Nat.le_refl _), HA.out, (Below.refl _ _).alloc (Nat.le_refl _) _⟩
  case round =>
    obtain ⟨k, n, ck, done, hk, rfl, rfl, ⟨hc0, hc1⟩, rfl, hn, hdl, HO, HR, hbw⟩ := hrel
    have hsz := hbw.size
    by_cases hlt : k < K
    · obtain ⟨b', off, e4, hbl', hc⟩ := HC.out k (by rw [List.length_map, ← HK.out]; exact hlt)
      injection e4 with e4
      injection e4 with e4 e5
      subst e4 e5
      rw [Nat.zero_add] at hc
      have hkl : k < ls.length := by rw [← HK.out]; exact hlt
      rw [List.getElem_map] at hc
      have hdr : ls.drop k = ls[k] :: ls.drop (k + 1) := (List.getElem_cons_drop hkl).symm
      have hxl := HL.out ls[k] (List.getElem_mem hkl)
      have hR2 := HR.out
      rw [hdr] at hR2
      obtain ⟨l, hl⟩ : ∃ l, l = ls[k] := ⟨_, rfl⟩
      rw [← hl] at hc hxl hR2
      obtain ⟨s, hsl⟩ : ∃ s, s = tx l := ⟨_, rfl⟩
      rw [← hsl] at hc
      have hsd : s.data.toList = l := by rw [hsl, tx_data]
      have hss : s.size ≤ 1000000000 := by rw [hsl, tx_size]; exact hxl
      rw [← hsd] at hR2
      have HR2 := Lib.hid hR2
      clear hl hsl hsd hR2 hdr hkl hxl HR
      have hc2 := (hbw.cell (p := ⟨b, k, none⟩) hbl').trans hc
      have HC0 := Lib.hid hc
      clear hc
      go_wp2_with fail
      obtain ⟨wo, hwo⟩ : ∃ x, x = wr := ⟨wr, rfl⟩
      subst hwo
      go_loopw [10] (fun q wr => ∃ m : Nat, m ≤ s.size ∧ q = .int .i64 m ∧ Hid ((32 : UInt8) ∉ s.data.toList.take m) ∧ wr = wo) (fun q _ => s.size - (intOf q).toNat)
      case atStart => exact ⟨0, Nat.zero_le _, rfl, by simp [Hid], rfl⟩
      case round =>
        obtain ⟨m, hm, rfl, HM, rfl⟩ := hrel
        obtain ⟨wo, hwo⟩ : ∃ x, x = wr := ⟨wr, rfl⟩
        subst hwo
        by_cases hlm : m < s.size
        · by_cases he : s[m] = 32
          · have he2 : ((s[m].toNat : Nat) : Int) = 32 := by rw [he]; rfl
            have he3 : (((s[m].toNat : Nat) : Int) == 32) = true := by rw [he2]; rfl
            have hne : ¬ (m : Int) = (s.size : Int) := by omega
            have HCT := Lib.hid (show Lib.cut s.data.toList [32] = (s.data.toList.take m, s.data.toList.drop (m + 1), true) by rw [split_at hlm he]; exact (cut_at HM.out).trans (by rw [← split_at hlm he]))
            have HX := Lib.hid (piece_from s (m + 1))
            have HY := Lib.hid (piece_to s m)
            clear he
            go_wp2_with fail
            rw [HX.out]
            obtain ⟨X, hX⟩ : ∃ X, X = s.data.toList.drop (m + 1) := ⟨_, rfl⟩
            have hXl : X.length ≤ 1000000000 := by rw [hX, List.length_drop, data_len]; omega
            rw [← hX] at HCT ⊢
            clear hX HX
            refine (s_l01Check (tx X) (by rw [tx_size]; omega) ck hc0 hc1 _).mono ?_; rintro e w2 ⟨rfl, hd⟩
            rw [tx_data]
            have hcb := ckL_bound hc0 hc1 X
            have HST := Lib.hid (fun heq : s.data.toList.take m = Lib.itoa (ckL ck X) => HR2.out.step HCT.out heq)
            have HNO := Lib.hid (fun heq : s.data.toList.take m ≠ Lib.itoa (ckL ck X) => HR2.out.stop (rcv_other HCT.out heq))
            generalize ckL ck X = ck2 at *
            have hb2 := hbw.trans (hd.below w1.heap.size)
            have hc3 := ((hd.below wo.heap.size).cell (p := ⟨b, k, none⟩) (Nat.lt_of_lt_of_le hbl' hbw.size)).trans hc2
            have HO3 := Lib.hid (HO.out.keep (hd.below wo.heap.size))
            have hsz2 := hb2.size
            clear hd hc2 HO
            have hcr := fun d os => cell_regrown hc3 d os
            have cD := fun d os => Calls.regrown_of (d := d) (os := os) (w := w2) (s_l01Dec ck2 (by omega) (by omega) _)
            by_cases heq : s.data.toList.take m = Lib.itoa ck2
            · have HS := Lib.hid (HST.out heq)
              have ep : ((s.extract 0 m).toList == (tx (Lib.itoa ck2)).toList) = true := by rw [HY.out, heq]; simp
              generalize tx (Lib.itoa ck2) = dq at *
              clear heq HST HNO HY
              go_wp2_with fail
              refine wp_region_quiet_below (by assumption) (by kernel_rfl) ?_
              repeat (quiet_step (first | exact cD _ _))
              refine wpQuiet_nil ?_
              intro w3 hw'
              obtain ⟨⟨dd, osq⟩, hw''⟩ := hw'
              have hbz := below_regrown w2 dd osq
              rw [← hw''] at hbz
              clear hw''
              have HO4 := Lib.hid (HO3.out.keep hbz)
              have hsz4 := hbz.size
              have hwz := hb.size
              have hbw3 := hb2.trans (hbz.mono hb2.size)
              have hsd := data_len s
              clear hbz hb2 hcr cD
              go_wp2_with (at_builtin; refine wpList_gapp (inj := Value.string) oneStrS strV_one w1.heap.size _ _ rfl (GO.alloc HO4.out _) [tx X] _ 1 rfl rfl (by intro i u hu; cases i with | zero => (simp only [List.getElem?_cons_zero, Option.some.injEq] at hu; subst hu; simp) | succ i => simp at hu) (by simp only [List.length_map, List.length_cons, List.length_nil]; omega) (by simp; omega) ?_; intro v2 w4 hown2 hg2; have HO2 := Lib.hid hown2; have hb4 := (hbw3.alloc (by omega) (.cells #[Value.string (tx X)] 9)).grown hg2 (by simp; omega) HO4.out.own_ge; have hc4 := (hb4.cell (p := ⟨b, k, none⟩) hbl').trans HC0.out; have HB4 := Lib.hid hb4; clear hown2 hg2 hb4)
              refine ⟨⟨k + 1, n + (s.size + 1), ck2, done ++ [X], by omega, by go_num, rfl, hcb, (by show Value.int .i64 _ = Value.int .i64 _; congr 1), by omega, by simp; omega, ?_, ?_, HB4.out⟩, by simp [intOf]; omega⟩
              · show GO _ _ _ _ _ _
                rw [← map_snoc]
                exact HO2.out
              · have h := HS.out
                rw [hsd] at h
                exact h
            · have HF := Lib.hid (HNO.out heq)
              have ep : ((s.extract 0 m).toList == (tx (Lib.itoa ck2)).toList) = false := by rw [HY.out]; exact str_ne2 (fun e => heq (tx_inj e))
              generalize tx (Lib.itoa ck2) = dq at *
              clear heq HST HNO HY
              go_wp2_with fail
              refine wp_region_quiet_below (by assumption) (by kernel_rfl) ?_
              repeat (quiet_step (first | exact cD _ _))
              refine wpQuiet_nil ?_
              intro w3 hw'
              obtain ⟨⟨dd, osq⟩, hw''⟩ := hw'
              have hbz := below_regrown w2 dd osq
              rw [← hw''] at hbz
              clear hw''
              have HO4 := Lib.hid (HO3.out.keep hbz)
              go_wp2_with fail
              go_ret2
              rw [HF.out]
              exact ⟨_, rfl, HO4.out.down hb.size, hb.trans ((hb2.trans (hbz.mono hb2.size)).mono hb.size)⟩
          · have HM2 := Lib.hid (take_mem hlm HM.out he)
            have he2 : ¬ ((s[m].toNat : Nat) : Int) = 32 := fun e => he (UInt8.toNat_inj.1 (by show _ = 32; omega))
            clear he
            go_wp2_with fail
            exact ⟨⟨m + 1, by omega, by go_num, HM2.out, trivial⟩, by simp [intOf]; omega⟩
        · obtain rfl : m = s.size := by omega
          have HF := Lib.hid (HR2.out.stop (rcv_miss (by rw [cut_none (by have h := HM.out; rwa [List.take_of_length_le (by rw [data_len]; exact Nat.le_refl _)] at h)])))
          go_wp2_with fail
          go_ret2
          rw [HF.out]
          exact ⟨_, rfl, HO.out.down hb.size, hb.trans (hbw.mono hb.size)⟩
    · obtain rfl : k = K := by omega
      have HF := Lib.hid (HR.out.stop (by rw [HK.out, List.drop_length]; rfl))
      go_wp2_with fail
      go_ret2
      rw [HF.out]
      exact ⟨_, rfl, HO.out.down hb.size, hb.trans (hbw.mono hb.size)⟩

theorem s_RecoverJournal (t : ByteArray) (hs : t.size ≤ 1000000000) (w : World) :
    Calls Tryd.prog 16 #[.string t] w fun e w' => ∃ u, e = .returned (.tuple #[u, .int .i64 (rjQ t.data.toList).2.1, .bool (rjQ t.data.toList).2.2]) ∧ GO Value.string 9 w.heap.size w' u ((rjQ t.data.toList).1.map tx) ∧ Below w.heap.size w w' := by
  by_cases hbig : 16000 < t.size
  · have HF := Lib.hid (show rjQ t.data.toList = ([], 0, false) from if_neg (by rw [data_len]; omega))
    go_enter Tryd.func16, Tryd.ntmps16
    go_wp2_with fail
    go_ret3
    rw [HF.out]
    exact ⟨_, rfl, GO.nil .., Below.refl _ _⟩
  · have HF := Lib.hid (show rjQ t.data.toList = ((rcvT 0 t.data.toList).1, ((rcvT 0 t.data.toList).2 : Int), true) from if_pos (by rw [data_len]; omega))
    go_enter Tryd.func16, Tryd.ntmps16
    go_wp2_with fail
    refine (s_l08Recover t hs _).mono ?_; rintro e w1 ⟨u, rfl, ho, hb⟩
    have HO := Lib.hid ho
    clear ho
    go_wp2_with fail
    go_ret3
    rw [HF.out]
    exact ⟨_, rfl, HO.out, hb⟩

end Go.Proofs.YtebahccjaieajaaDoor
