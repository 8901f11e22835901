/- Contracts: RecoverJournal by the program. -/
import Derived.Test.YtebahccjaieajaaDoorK96
namespace Go.Proofs.YtebahccjaieajaaDoor
set_option linter.unusedSimpArgs false
set_option linter.unusedVariables false
set_option maxRecDepth 100000
set_option maxHeartbeats 4000000
open Go.RowKit
attribute [local go_sem] run_store_float run_store_complex alloc_drewN setCell_drewN

/-- How far the recovery of a text has come. -/
def RtAt (all : List (List UInt8) × Nat) (t : List UInt8) (ck : Int) (done : List (List UInt8)) (n : Nat) : Prop := all = (done ++ (rcvT ck t).1, n + (rcvT ck t).2)
theorem RtAt.start (t : List UInt8) : RtAt (rcvT 0 t) t 0 [] 0 := by simp [RtAt]
theorem RtAt.stop {all : List (List UInt8) × Nat} {t : List UInt8} {ck : Int} {done : List (List UInt8)} {n : Nat} (h : RtAt all t ck done n) (h2 : rcvT ck t = ([], 0)) : all = (done, n) := by rw [h, h2]; simp
theorem RtAt.other {all : List (List UInt8) × Nat} {l r : List UInt8} {ck : Int} {done : List (List UInt8)} {n : Nat} (h : RtAt all (l ++ 10 :: r) ck done n) (hl : (10 : UInt8) ∉ l) (h2 : ∀ ls, rcv ck (l :: ls) = ([], 0)) : all = (done, n) := h.stop (by rw [rcvT_line hl]; exact h2 _)
theorem RtAt.step {all : List (List UInt8) × Nat} {l r w x : List UInt8} {ck : Int} {done : List (List UInt8)} {n : Nat} (h : RtAt all (l ++ 10 :: r) ck done n) (hl : (10 : UInt8) ∉ l) (h1 : Lib.cut l [32] = (w, x, true)) (h2 : w = Lib.itoa (ckL ck x)) : RtAt all r (ckL ck x) (done ++ [x]) (n + (l.length + 1)) := by
  rw [RtAt, h, rcvT_line hl, rcv_hit h1 h2, List.append_assoc, rcvT]
  simp only [List.singleton_append, Prod.mk.injEq, true_and]
  omega
theorem cut_len (l c : List UInt8) : (Lib.cut l c).1.length ≤ l.length ∧ (Lib.cut l c).2.1.length ≤ l.length := by
  rw [Lib.cut]
  split
  · simp [List.length_take]; omega
  · simp

set_option maxRecDepth 100000 in
theorem i_recovered (t : ByteArray) (m : Int) (w : World) (hs : t.size ≤ 1000000000) (hm : w.cell? ⟨0, 0, none⟩ = some (.int .i64 m)) (htab : Lib.TabIs Tryd.prog w "internal/strconv.uint64pow10" .u64 Lib.pow10Tab) :
    Calls Tryd.prog 41 #[.string t] w fun e w' => ∃ u, e = .returned (.tuple #[u, .int .i64 ((rcvT 0 t.data.toList).2 : Nat)]) ∧ GO Value.string 9 w.heap.size w' u ((rcvT 0 t.data.toList).1.map tx) ∧ Below w.heap.size w w' := by
  obtain ⟨all, hall⟩ : ∃ all, all = rcvT 0 t.data.toList := ⟨_, rfl⟩
  have HA := Lib.hid (show RtAt all (t.data.toList.drop 0) 0 [] 0 by rw [hall]; exact RtAt.start _)
  rw [← hall]
  have HT := Lib.hid (fun w' (h : Below w.heap.size w w') => tab_keep htab h)
  have HM := Lib.hid (fun w' (h : Below w.heap.size w w') => (h.cell (p := ⟨0, 0, none⟩) (block_lt_of_cell hm)).trans hm)
  clear hall htab hm
  go_enter Tryd.func41, Tryd.ntmps41
  go_wp2_with fail
  go_loopw [4, 5, 6] (fun o q a wr => ∃ (k : Nat) (ck : Int) (done : List (List UInt8)), k ≤ t.size ∧ a = .int .i64 k ∧ q = .int .i64 ck ∧ (0 ≤ ck ∧ ck < 65003) ∧ done.length ≤ k ∧ Hid (GO Value.string 9 w.heap.size wr o (done.map tx)) ∧ Hid (RtAt all (t.data.toList.drop k) ck done k) ∧ Below w.heap.size w wr) (fun _ _ a _ => t.size + 1 - (intOf a).toNat)
  case atStart => exact ⟨0, 0, [], Nat.zero_le _, rfl, rfl, ⟨Int.le_refl _, by decide⟩, Nat.le_refl _, GO.empty _ _ rfl (Nat.le_refl _), HA.out, (Below.refl _ _).alloc (Nat.le_refl _) _⟩
  case round =>
    obtain ⟨k, ck, done, hk, rfl, rfl, ⟨hc0, hc1⟩, hdl, HO, HR, hb⟩ := hrel
    have hsz := hb.size
    have HP := Lib.hid (piece_from t k)
    go_wp2_with fail
    rw [HP.out]
    refine (Tryd.strings_IndexByte (tx (t.data.toList.drop k)) 10 _).mono ?_; rintro e w1 ⟨rfl, rfl⟩
    rw [tx_data, show (10 : Int).toNat.toUInt8 = 10 from rfl]
    by_cases hn : (10 : UInt8) ∈ t.data.toList.drop k
    · obtain ⟨x, r, hx, hxn⟩ := List.eq_append_cons_of_mem hn
      rw [show Lib.indexByte (t.data.toList.drop k) 10 = (x.length : Int) by rw [hx]; exact indexByte_first 10 r hxn]
      have hxl : k + (x.length + 1) ≤ t.size := by
        have := congrArg List.length hx
        rw [List.length_drop, data_len, List.length_append, List.length_cons] at this
        omega
      obtain ⟨j, hj⟩ : ∃ j, j = k + x.length := ⟨_, rfl⟩
      have hj2 : (k : Int) + (x.length : Int) = (j : Int) := by omega
      have hkj : k ≤ j := by omega
      have hjt : j ≤ t.size := by omega
      have HPX := Lib.hid (show t.extract k j = tx x by rw [tx_piece, hx, show j - k = x.length by omega]; simp)
      have HDR := Lib.hid (show t.data.toList.drop (k + (x.length + 1)) = r by rw [← List.drop_drop, hx, ← List.drop_drop]; simp)
      have HR2 := Lib.hid (show RtAt all (x ++ 10 :: r) ck done k from hx ▸ HR.out)
      have HXN := Lib.hid hxn
      have hcl := cut_len x [32]
      have HJ := Lib.hid hj
      clear hn hx hxn HP HR hj
      go_wp2_with fail
      rw [HPX.out]
      refine (Tryd.strings_Cut (tx x) ⟨#[32]⟩ m _ (by rw [tx_size]; omega) (HM.out _ hb)).mono ?_; rintro e w2 ⟨rfl, d, rfl⟩
      rw [tx_data, show (⟨#[32]⟩ : ByteArray).data.toList = [32] from rfl]
      obtain ⟨Cq, hCq⟩ : ∃ Cq, Cq = Lib.cut x [32] := ⟨_, rfl⟩
      rw [← hCq] at hcl ⊢
      obtain ⟨a1, a2, fd⟩ := Cq
      have HCQ := Lib.hid hCq
      clear hCq
      have hb1 : Below w.heap.size w (w1.drewN d) := below_drewN hb _
      have HO1 := Lib.hid (HO.out.drewN d)
      generalize w1.drewN d = w2 at *
      generalize hA1 : (ByteArray.mk a1.toArray) = A1
      generalize hA2 : (ByteArray.mk a2.toArray) = A2
      have hA1 : A1 = tx a1 := hA1.symm
      have hA2 : A2 = tx a2 := hA2.symm
      have HA1 := Lib.hid hA1
      have HA2 := Lib.hid hA2
      have hcl2 : a2.length ≤ x.length := hcl.2
      have hA2s : A2.size ≤ 1000000000 := by rw [hA2, tx_size]; omega
      clear hA1 hA2
      have hsz2 := hb1.size
      clear HO hb hsz
      go_wp2_with fail
      refine (i_CheckOf A2 (by omega) ck hc0 hc1 _).mono ?_; rintro e w3 ⟨rfl, hd⟩
      rw [show A2.data.toList = a2 by rw [HA2.out, tx_data]]
      have hcb := ckL_bound hc0 hc1 a2
      have hb2 := hb1.trans (hd.below w.heap.size)
      have HO2 := Lib.hid (HO1.out.keep (hd.below _))
      clear hd HO1 hb1 hsz2
      have hsz2 := hb2.size
      cases fd
      · have HF := Lib.hid (HR2.out.other HXN.out (fun ls => rcv_miss (by rw [← HCQ.out])))
        go_wp2_with fail
        go_ret2
        rw [HF.out]
        exact ⟨_, rfl, HO2.out, hb2⟩
      · have HST := Lib.hid (fun heq : a1 = Lib.itoa (ckL ck a2) => HR2.out.step HXN.out HCQ.out.symm heq)
        have HNO := Lib.hid (fun heq : a1 ≠ Lib.itoa (ckL ck a2) => HR2.out.other HXN.out (fun ls => rcv_other HCQ.out.symm heq))
        generalize ckL ck a2 = ck2 at *
        go_wp2_with fail
        refine (i_Decimal ck2 (by omega) (by omega) _ (HT.out _ hb2)).mono ?_; rintro e w4 ⟨rfl, hd⟩
        have hb3 := hb2.trans (hd.mono hb2.size)
        have HO3 := Lib.hid (HO2.out.keep hd)
        clear hd HO2 hb2 hsz2
        have hsz3 := hb3.size
        by_cases heq : a1 = Lib.itoa ck2
        · have HS := Lib.hid (HST.out heq)
          rw [show tx (Lib.itoa ck2) = A1 by rw [HA1.out, heq]]
          clear heq HST HNO
          go_wp2_with (at_builtin; refine wpList_gapp (inj := Value.string) oneStrS strV_one w.heap.size _ _ rfl (GO.alloc HO3.out _) [A2] _ 1 rfl rfl (by intro i u hu; cases i with | zero => (simp only [List.getElem?_cons_zero, Option.some.injEq] at hu; subst hu; simp) | succ i => simp at hu) (by simp only [List.length_map, List.length_cons, List.length_nil]; omega) (by simp; omega) ?_; intro v2 w5 hown2 hg2; have HO4 := Lib.hid hown2; have HB4 := Lib.hid ((hb3.alloc (by omega) (.cells #[Value.string A2] 9)).grown hg2 (by simp; omega) HO3.out.own_ge); clear hown2 hg2)
          refine ⟨⟨j + 1, ck2, done ++ [a2], by omega, (by show Value.int .i64 _ = Value.int .i64 _; congr 1; omega), rfl, hcb, by simp; omega, ?_, ?_, HB4.out⟩, by simp [intOf]; omega⟩
          · show GO _ _ _ _ _ _
            rw [← map_snoc, ← HA2.out]
            exact HO4.out
          · have h := HS.out
            rw [← Nat.add_assoc, ← HJ.out, ← HDR.out, show k + (x.length + 1) = j + 1 by rw [HJ.out]; omega] at h
            exact h
        · have HF := Lib.hid (HNO.out heq)
          have ep : (A1.toList == (tx (Lib.itoa ck2)).toList) = false := by rw [HA1.out]; exact str_ne2 (fun e => heq (tx_inj e))
          generalize tx (Lib.itoa ck2) = dq at *
          clear heq HST HNO
          go_wp2_with fail
          go_ret2
          rw [HF.out]
          exact ⟨_, rfl, HO3.out, hb3⟩
    · rw [show Lib.indexByte (t.data.toList.drop k) 10 = -1 from indexByte_miss 10 hn]
      have HF := Lib.hid (HR.out.stop (rcvT_end hn))
      clear hn HP HR
      go_wp2_with fail
      go_ret2
      rw [HF.out]
      exact ⟨_, rfl, HO.out, hb⟩

theorem i_RecoverJournal (t : ByteArray) (m : Int) (w : World) (hs : t.size ≤ 1000000000) (hm : w.cell? ⟨0, 0, none⟩ = some (.int .i64 m)) (htab : Lib.TabIs Tryd.prog w "internal/strconv.uint64pow10" .u64 Lib.pow10Tab) :
    Calls Tryd.prog 17 #[.string t] w fun e w' => ∃ u, e = .returned (.tuple #[u, .int .i64 (rjQ t.data.toList).2.1, .bool (rjQ t.data.toList).2.2]) ∧ GO Value.string 9 w.heap.size w' u ((rjQ t.data.toList).1.map tx) ∧ Below w.heap.size w w' := by
  by_cases hbig : 16000 < t.size
  · have HF := Lib.hid (show rjQ t.data.toList = ([], 0, false) from if_neg (by rw [data_len]; omega))
    clear hm htab
    go_enter Tryd.func17, Tryd.ntmps17
    go_wp2_with fail
    go_ret3
    rw [HF.out]
    exact ⟨_, rfl, GO.nil .., Below.refl _ _⟩
  · have HF := Lib.hid (show rjQ t.data.toList = ((rcvT 0 t.data.toList).1, ((rcvT 0 t.data.toList).2 : Int), true) from if_pos (by rw [data_len]; omega))
    have HR := Lib.hid (i_recovered t m w hs hm htab)
    clear hm htab
    go_enter Tryd.func17, Tryd.ntmps17
    go_wp2_with fail
    refine HR.out.mono ?_; rintro e w1 ⟨u, rfl, ho, hb⟩
    have HO := Lib.hid ho
    clear ho
    go_wp2_with fail
    go_ret3
    rw [HF.out]
    exact ⟨_, rfl, HO.out, hb⟩

end Go.Proofs.YtebahccjaieajaaDoor
