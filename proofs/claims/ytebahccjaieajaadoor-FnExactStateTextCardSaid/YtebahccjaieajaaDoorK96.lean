/- Contracts: JournalOf by the program. -/
import Derived.Test.YtebahccjaieajaaDoorK95
import Derived.Lib.Builder
namespace Go.Proofs.YtebahccjaieajaaDoor
set_option linter.unusedSimpArgs false
set_option linter.unusedVariables false
set_option maxRecDepth 100000
set_option maxHeartbeats 4000000
open Go.RowKit
attribute [local go_sem] run_store_float run_store_complex alloc_drewN setCell_drewN

theorem BuilderAt_keep {T e B b : Nat} {p : Value} {bs : List Value} {w w' : World} (h : Lib.BuilderAt T e B b p bs w) (hb : Below w.heap.size w w') : Lib.BuilderAt T e B b p bs w' := by
  have hlt := h.lt
  obtain ⟨h1, v, h2, h3, h4⟩ := h
  refine ⟨h1, v, (hb.block b hlt).trans h2, World.ownsRow.kept h3 (grown_of_below hb none) (by cases v.ownBlock <;> simp), h4⟩
theorem IsBuilder_keep {T e B b : Nat} {bs : List Value} {w w' : World} (h : Lib.IsBuilder T e B b bs w) (hb : Below w.heap.size w w') : Lib.IsBuilder T e B b bs w' := by
  rcases h with h | h
  · exact .inl (BuilderAt_keep h hb)
  · exact .inr (BuilderAt_keep h hb)
theorem index_nl {s : ByteArray} {c : UInt8} (h : c ∈ s.data.toList) : 0 ≤ Lib.indexByte s.data.toList c := by
  rcases Int.lt_or_le (Lib.indexByte s.data.toList c) 0 with h1 | h1
  · have h2 := Lib.indexByte_ge s.data.toList c
    have h3 : Lib.indexByte s.data.toList c = -1 := by omega
    obtain ⟨k, hk, e⟩ := List.getElem_of_mem h
    exact absurd ((List.getElem?_eq_getElem hk).trans (congrArg some e)) (Lib.indexByte_none h3 k)
  · exact h1
theorem index_no {s : ByteArray} {c : UInt8} (h : c ∉ s.data.toList) : ¬ 0 ≤ Lib.indexByte s.data.toList c := by rw [indexByte_miss c h]; decide

theorem tab_keep {w w' : World} (h : Lib.TabIs Tryd.prog w "internal/strconv.uint64pow10" .u64 Lib.pow10Tab) (hb : Below w.heap.size w w') : Lib.TabIs Tryd.prog w' "internal/strconv.uint64pow10" .u64 Lib.pow10Tab :=
  Go.Joins.tab_stays (g := 2) (by kernel_rfl) h hb (Nat.le_refl _)
set_option maxRecDepth 100000 in
theorem i_JournalOf (v : Value) (ss : List ByteArray) (w : World) (hv : GL Value.string w v ss) (hs : ∀ s ∈ ss, s.size ≤ 1048576) (htab : Lib.TabIs Tryd.prog w "internal/strconv.uint64pow10" .u64 Lib.pow10Tab) :
    Calls Tryd.prog 14 #[v] w fun e w' => e = .returned (.tuple #[.string (tx (joQ (ln ss)).1), .bool (joQ (ln ss)).2]) ∧ Below w.heap.size w w' := by
  obtain ⟨Q, hQ⟩ : ∃ Q, Q = joQ (ln ss) := ⟨_, rfl⟩
  rw [← hQ]
  have HQ := Lib.hid hQ
  obtain ⟨ao, c, rfl, hlen, hcell⟩ := hv
  have HC := Lib.hid hcell
  have HS := Lib.hid hs
  have HT := Lib.hid (fun w' (h : Below w.heap.size w w') => tab_keep htab h)
  clear hcell hs hQ htab
  have HLN := Lib.hid (ln_length ss)
  go_enter Tryd.func14, Tryd.ntmps14
  go_wp2_with fail
  go_loopw [5, 11] (fun n i wr => ∃ k : Nat, k ≤ ss.length ∧ i = .int .i64 k ∧ n = .int .i64 (jrCk (ln ss) k) ∧ (jrTo (ln ss) k).length ≤ 16000 ∧ Hid (∀ j, j < k → noNl ((ln ss).getD j []) = true) ∧ Hid (Lib.IsBuilder 61 5 w.heap.size w.heap.size (Lib.byteCells (jrTo (ln ss) k)) wr) ∧ Below w.heap.size w wr) (fun _ i _ => ss.length - (intOf i).toNat)
  case atStart => exact ⟨0, Nat.zero_le _, rfl, rfl, Nat.zero_le _, (fun j hj => absurd hj (Nat.not_lt_zero _)), Lib.fresh_isBuilder _ _ _, (Below.refl _ _).alloc (Nat.le_refl _) _⟩
  case round =>
    obtain ⟨k, hk, rfl, rfl, hlk, HN, HI, hb⟩ := hrel
    have hsz := hb.size
    by_cases hlt : k < ss.length
    · obtain ⟨b, off, rfl, hbl, hc⟩ := HC.out k hlt
      have hssz := HS.out ss[k] (List.getElem_mem hlt)
      have HG := Lib.hid (ln_get hlt)
      have B0 := jrCk_bound (ln ss) k
      have B1 := jrCk_bound (ln ss) (k + 1)
      have L1 := jrTo_step (ln ss) k
      have HCK := Lib.hid (show jrCk (ln ss) (k + 1) = ckL (jrCk (ln ss) k) ss[k].data.toList by rw [jrCk, ln_get hlt])
      have HTO := Lib.hid (show jrTo (ln ss) (k + 1) = jrTo (ln ss) k ++ jrLine (jrCk (ln ss) (k + 1)) ss[k].data.toList by rw [jrTo, ln_get hlt])
      rw [ln_get hlt, data_len] at L1
      have HQ1 := Lib.hid (fun h => HQ.out.trans (joQ_long (ls := ln ss) (k := k + 1) (by rw [HLN.out]; exact hlt) h))
      have HQ2 := Lib.hid (fun h => HQ.out.trans (joQ_nl (ls := ln ss) (k := k) (by rw [HLN.out]; exact hlt) h))
      obtain ⟨s, hs⟩ : ∃ s, s = ss[k] := ⟨_, rfl⟩
      rw [← hs] at hc hssz HG HCK HTO L1
      have hc1 := (hb.cell (p := ⟨b, off + k, none⟩) hbl).trans hc
      clear hs hc
      by_cases hnl : (10 : UInt8) ∈ s.data.toList
      · have HF := Lib.hid (HQ2.out (by rw [HG.out]; exact noNl_no hnl))
        have HIX := Lib.hid (index_nl hnl)
        clear hnl
        go_wp2_with fail
        refine (Tryd.strings_Contains_one s 10 _).mono ?_; rintro e w1 ⟨rfl, rfl⟩
        rw [decide_eq_true HIX.out]
        go_wp2_with fail
        go_ret2
        rw [HF.out]
        exact ⟨rfl, hb⟩
      · have HIX := Lib.hid (index_no hnl)
        have HNL := Lib.hid (noNl_of hnl)
        clear hnl
        go_wp2_with fail
        refine (Tryd.strings_Contains_one s 10 _).mono ?_; rintro e w1 ⟨rfl, rfl⟩
        rw [show decide (0 ≤ Lib.indexByte s.data.toList 10) = false from decide_eq_false (by have := HIX.out; omega)]
        go_wp2_with fail
        refine (i_CheckOf s (by omega) _ B0.1 B0.2 _).mono ?_; rintro e w1 ⟨rfl, hd⟩
        rw [← HCK.out]
        have hb1 := hb.trans (hd.below w.heap.size)
        have HI1 := Lib.hid (IsBuilder_keep HI.out (hd.below _))
        clear hd hb HI
        go_wp2_with fail
        refine (i_Decimal _ (by omega) (by omega) _ (HT.out _ hb1)).mono ?_; rintro e w2 ⟨rfl, hbd⟩
        have hb2 := hb1.trans (hbd.mono hb1.size)
        have HI2 := Lib.hid (IsBuilder_keep HI1.out hbd)
        clear hbd hb1 HI1
        have e1 : (tx (Lib.itoa (jrCk (ln ss) (k + 1)))).size = (Lib.itoa (jrCk (ln ss) (k + 1))).length := tx_size _
        have hit := itoa_le (n := jrCk (ln ss) (k + 1)) (by omega) (by omega)
        have HE := Lib.hid (show Lib.byteCells (jrTo (ln ss) k) ++ Lib.strCells (tx (Lib.itoa (jrCk (ln ss) (k + 1))) ++ ⟨#[32]⟩ ++ s ++ ⟨#[10]⟩) = Lib.byteCells (jrTo (ln ss) (k + 1)) by
          rw [HTO.out, Lib.byteCells_append, Lib.strCells_eq, jrLine]
          congr 2)
        have HL2 := Lib.hid (show (Lib.byteCells (jrTo (ln ss) k)).length = (jrTo (ln ss) k).length by simp [Lib.byteCells])
        generalize tx (Lib.itoa (jrCk (ln ss) (k + 1))) = a1 at *
        have n1 : ¬ 9223372036854775807 < a1.size + 1 := by omega
        have n2 : ¬ 9223372036854775807 < a1.size + 1 + s.size := by omega
        have n3 : ¬ 9223372036854775807 < a1.size + 1 + s.size + 1 := by omega
        have hsum : (a1 ++ ⟨#[32]⟩ ++ s ++ ⟨#[10]⟩).size = a1.size + 1 + s.size + 1 := by simp [ByteArray.size_append]; try rfl
        have HSUM := Lib.hid hsum
        have HE1 := Lib.hid e1
        clear e1 hsum
        go_wp2_with fail
        refine (Tryd.Builder_WriteString w.heap.size w.heap.size _ _ _ HI2.out (by rw [HL2.out, HSUM.out]; have := HE1.out; omega) hb2.size).mono ?_; rintro e w3 ⟨rfl, hat, hbw⟩
        rw [HE.out] at hat
        have hb3 := hb2.trans hbw
        have HI3 := Lib.hid (show Lib.IsBuilder _ _ _ _ _ _ from .inr hat)
        clear hbw hb2 HI2 hat
        go_wp2_with fail
        refine (Tryd.Builder_Len w.heap.size w.heap.size _ _ HI3.out).mono ?_; rintro e w4 ⟨rfl, rfl⟩
        have HL3 := Lib.hid (show (Lib.byteCells (jrTo (ln ss) (k + 1))).length = (jrTo (ln ss) (k + 1)).length by simp [Lib.byteCells])
        rw [HL3.out]
        by_cases hbig : 16000 < (jrTo (ln ss) (k + 1)).length
        · have HF := Lib.hid (HQ1.out hbig)
          have hbi : (16000 : Int) < ((jrTo (ln ss) (k + 1)).length : Int) := by omega
          go_wp2_with fail
          go_ret2
          rw [HF.out]
          exact ⟨rfl, hb3⟩
        · have hbi : ¬ (16000 : Int) < ((jrTo (ln ss) (k + 1)).length : Int) := by omega
          go_wp2_with fail
          refine ⟨⟨k + 1, by omega, by go_num, rfl, by omega, (fun j hj => ?_), HI3.out, hb3⟩, by simp [intOf]; omega⟩
          rcases Nat.lt_or_ge j k with h | h
          · exact HN.out j h
          · obtain rfl : j = k := by omega
            rw [HG.out]; exact HNL.out
    · obtain rfl : k = ss.length := by omega
      have HF := Lib.hid (HQ.out.trans ((joQ_yes (ls := ln ss) (by rw [HLN.out]; exact HN.out) (by rw [HLN.out]; exact hlk)).trans (by rw [HLN.out])))
      go_wp2_with fail
      refine (Tryd.Builder_String_any w.heap.size w.heap.size _ _ HI.out hb.size).mono ?_; rintro e w1 ⟨rfl, hbw⟩
      go_wp2_with fail
      go_ret2
      rw [HF.out]
      exact ⟨rfl, hb.trans hbw⟩

end Go.Proofs.YtebahccjaieajaaDoor
