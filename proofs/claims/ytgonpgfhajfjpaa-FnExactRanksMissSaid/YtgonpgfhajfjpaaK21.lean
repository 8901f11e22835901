/- Contracts: slices of slices of numbers copied and compared. -/
import Derived.Test.YtgonpgfhajfjpaaOpen2
import Derived.Test.YtgonpgfhajfjpaaK15
import Derived.Test.YtgonpgfhajfjpaaK10
import Derived.Deep.RegionLaw
import Derived.Deep.RegionWith
namespace Go.Proofs.Ytgonpgfhajfjpaa
set_option linter.unusedSimpArgs false
set_option linter.unusedVariables false
set_option maxRecDepth 100000
set_option maxHeartbeats 4000000
open Go.RowKit
attribute [local go_sem] run_store_float run_store_complex alloc_drewN setCell_drewN

theorem SS.slice {w : World} {v : Value} {css : List (List Nat)} (h : SS w v css) : ∃ ao c, v = .slice ao css.length c ∧ css.length ≤ c ∧ c ≤ 9223372036854775807 := by
  obtain ⟨ao, c, h1, h2, h3, _⟩ := h.get rfl
  exact ⟨ao, c, h1, h2, h3⟩
/-- A slice of slices of the call's own: the rows' blocks, and the slice's own. -/
def SO (T1 T2 lo : Nat) (w : World) (v : Value) (css : List (List Nat)) : Prop :=
  ∃ vs : List Value, GO id T1 lo w v vs ∧ vs.length = css.length ∧ ∀ i (h1 : i < vs.length) (h2 : i < css.length), OW T2 lo w vs[i] css[i]
def SW (T1 T2 lo hi : Nat) (w : World) (v : Value) (css : List (List Nat)) : Prop :=
  ∃ vs : List Value, GW id T1 lo hi w v vs ∧ vs.length = css.length ∧ ∀ i (h1 : i < vs.length) (h2 : i < css.length), FW T2 lo hi w vs[i] css[i]
theorem SW.of {T1 T2 lo : Nat} {w : World} {v : Value} {css : List (List Nat)} (h : SO T1 T2 lo w v css) : SW T1 T2 lo w.heap.size w v css := by
  obtain ⟨vs, h1, h2, h3⟩ := h
  exact ⟨vs, GW.of h1, h2, fun i a b => FW.of (h3 i a b)⟩
theorem SW.keep {T1 T2 lo hi a b : Nat} {w w' : World} {v : Value} {css : List (List Nat)} (h : SW T1 T2 lo hi w v css) (hw : Wi a b w w') (hd : b ≤ lo ∨ hi ≤ a) : SW T1 T2 lo hi w' v css := by
  obtain ⟨vs, h1, h2, h3⟩ := h
  exact ⟨vs, h1.keep hw hd, h2, fun i x y => (h3 i x y).keep hw hd⟩
theorem SW.ss {T1 T2 lo hi : Nat} {w : World} {v : Value} {css : List (List Nat)} (h : SW T1 T2 lo hi w v css) : SS w v css := by
  obtain ⟨vs, h1, h2, h3⟩ := h
  exact ⟨vs, h1.gl, h2, fun i x y => (h3 i x y).sb⟩

def szAt (css : List (List Nat)) (left : Int) : Nat → Int
  | 0 => left - css.length
  | k + 1 => szAt css left k - (css.getD k []).length
def szL (css : List (List Nat)) (left : Int) : Int := szAt css left css.length
def szQ (css : List (List Nat)) (left : Int) : Int := if 0 ≤ szL css left then szL css left else -1
theorem szAt_le (css : List (List Nat)) (left : Int) {i j : Nat} (h : i ≤ j) : szAt css left j ≤ szAt css left i := by
  induction h with
  | refl => exact Int.le_refl _
  | step h ih =>
    refine Int.le_trans ?_ ih
    show _ - _ ≤ _
    omega
theorem szQ_neg {css : List (List Nat)} {left : Int} (h : szL css left < 0) : szQ css left = -1 := by unfold szQ; rw [if_neg (by omega)]
theorem szQ_pos {css : List (List Nat)} {left : Int} (h : ¬ szL css left < 0) : szQ css left = szL css left := by unfold szQ; rw [if_pos (by omega)]
theorem szL_len {css : List (List Nat)} {left : Int} (h : 0 ≤ szL css left) (hl : left ≤ 1048576) : css.length < 1099511627776 := by
  have h1 : szL css left ≤ szAt css left 0 := szAt_le css left (Nat.zero_le _)
  have h2 : szAt css left 0 = left - css.length := rfl
  omega
theorem szL_each {css : List (List Nat)} {left : Int} (h : 0 ≤ szL css left) : ∀ i, i < css.length → ((css.getD i []).length : Int) ≤ left := by
  intro i hi
  have h1 : szL css left ≤ szAt css left (i + 1) := szAt_le css left hi
  have h2 : szAt css left (i + 1) = szAt css left i - (css.getD i []).length := rfl
  have h3 : szAt css left i ≤ szAt css left 0 := szAt_le css left (Nat.zero_le _)
  have h4 : szAt css left 0 = left - css.length := rfl
  omega


theorem l_szF (v : Value) (cs : List Nat) (left : Int) (w : World) (hv : SL w v cs) (h0 : 0 ≤ left) (h1 : left ≤ 1048576) :
    Calls Try.prog 16 #[v, .int .i64 left] w fun e w' => e = .returned (.int .i64 (if (cs.length : Int) ≤ left then left - cs.length else -1)) ∧ Dr w w' := by
  obtain ⟨ao, c, xs, rfl, hx, hlen, hcell⟩ := hv
  have hl : xs.length = cs.length := by rw [← hx]; simp
  clear hx hcell
  rw [← hl]
  clear hl
  by_cases h : (xs.length : Int) ≤ left
  all_goals
    go_enter Try.func16, Try.ntmps16
    go_wp2_with fail
    go_ret
    refine ⟨ret_int ?_, Dr.refl _⟩
    first | rfl | (simp [h]; done) | (simp; omega)

theorem l_szFloat32SS (v : Value) (css : List (List Nat)) (left : Int) (w : World) (hv : SS w v css) (h0 : 0 ≤ left) (h1 : left ≤ 1048576) :
    Calls Try.prog 4 #[v, .int .i64 left] w fun e w' => e = .returned (.int .i64 (szQ css left)) ∧ Dr w w' := by
  obtain ⟨ao, c, rfl, hc1, hc2, hget⟩ := hv.get rfl
  have HG := Lib.hid hget
  clear hget hv
  by_cases hb : left - (css.length : Int) < 0
  · have HN := Lib.hid (show szL css left < 0 by
      have h1 : szL css left ≤ szAt css left 0 := szAt_le css left (Nat.zero_le _)
      have h2 : szAt css left 0 = left - css.length := rfl
      omega)
    go_enter Try.func4, Try.ntmps4
    go_wp2_with fail
    go_ret
    exact ⟨ret_int (szQ_neg HN.out).symm, Dr.refl _⟩
  · have h00 : 0 ≤ szAt css left 0 := by show 0 ≤ left - (css.length : Int); omega
    go_enter Try.func4, Try.ntmps4
    go_wp2_with fail
    go_loopw [1, 5] (fun l i wr => ∃ k : Nat, k ≤ css.length ∧ i = .int .i64 (k : Int) ∧ (∃ q : Int, l = .int .i64 q ∧ 0 ≤ q ∧ q ≤ 1048576 ∧ Hid (q = szAt css left k)) ∧ ∃ d, wr = w.drewN d) (fun _ i _ => css.length - (intOf i).toNat)
    case atStart => exact ⟨0, Nat.zero_le _, rfl, ⟨_, rfl, by omega, by omega, rfl⟩, 0, rfl⟩
    case round =>
      obtain ⟨k, hk, rfl, ⟨q, rfl, hq0, hq1, HQ⟩, d, rfl⟩ := hrel
      by_cases hlt : k < css.length
      · obtain ⟨b, off, u, rfl, hbl, hc, hsb⟩ := HG.out k hlt
        have HS := Lib.hid hsb
        have HL := Lib.hid (show szAt css left (k + 1) = q - ((css.getD k []).length : Int) by rw [HQ.out]; rfl)
        have HM := Lib.hid (show szL css left ≤ szAt css left (k + 1) from szAt_le css left hlt)
        clear hsb
        generalize hn : (css.getD k []).length = n
        have HNN := Lib.hid hn
        clear hn
        by_cases hle : (n : Int) ≤ q
        · go_wp2_with (go_at_call 16; (refine (l_szF _ (css.getD k []) _ _ (HS.out.drewN d).sl hq0 hq1).mono ?_; rintro e w1 ⟨rfl, n1, rfl⟩; rw [HNN.out, if_pos hle]))
          refine ⟨⟨k + 1, by omega, by go_num, ⟨_, rfl, by omega, by omega, ?_⟩, _, rfl⟩, by simp [intOf]; omega⟩
          show _ = _
          rw [HL.out, HNN.out]
        · go_wp2_with (go_at_call 16; refine (l_szF _ (css.getD k []) _ _ (HS.out.drewN d).sl hq0 hq1).mono ?_; rintro e w1 ⟨rfl, n1, rfl⟩; rw [HNN.out, if_neg hle])
          go_ret
          refine ⟨ret_int (szQ_neg ?_).symm, _, rfl⟩
          have h1 := HL.out
          have h2 := HM.out
          rw [HNN.out] at h1
          omega
      · go_wp2_with fail
        go_ret
        obtain rfl : k = css.length := by omega
        refine ⟨ret_int ?_, _, rfl⟩
        have h1 : q = szL css left := HQ.out
        rw [szQ_pos (by omega)]; exact h1

theorem oneF32S : OneC Try.prog 22 23 (.slice none 0 0) 24 := oneC_of Try.underlying22 (by kernel_rfl) rfl (by decide)
theorem l_toFloat32SS (v : Value) (css : List (List Nat)) (w : World) (hv : SS w v css) (hn : css.length < 1099511627776) (hn2 : ∀ i, i < css.length → ((css.getD i []).length : Int) ≤ 1048576) :
    Calls Try.prog 6 #[v] w fun e w' => ∃ u, e = .returned u ∧ SO 23 37 w.heap.size w' u css ∧ Below w.heap.size w w' := by
  obtain ⟨ao, c, rfl, hc1, hc2, hget⟩ := hv.get rfl
  have HG := Lib.hid hget
  have HN2 := Lib.hid hn2
  clear hget hv hn2
  go_enter Try.func6, Try.ntmps6
  go_wp2_with (refine wpList_gmake (inj := (id : Value → Value)) oneF32S (.slice none 0 0) rfl css.length rfl rfl hn ?_; intro w1 ho hg; have HO := Lib.hid ho; clear ho)
  have hb1 : Below w.heap.size w w1 := (Below.refl _ w).grown hg (Nat.le_refl _) (by simp)
  have hs1 : w.heap.size + 1 ≤ w1.heap.size := (HO.out.block _ rfl).2
  clear hg
  go_loopw [4] (fun i wr => ∃ k : Nat, k ≤ css.length ∧ i = .int .i64 k ∧ Hid (∃ us : List Value, us.length = k ∧ GO id 23 w.heap.size wr (.slice (some ⟨w.heap.size, 0, none⟩) css.length css.length) (us ++ List.replicate (css.length - k) (.slice none 0 0)) ∧ ∀ i (h1 : i < us.length), OW 37 (w.heap.size + 1) wr us[i] (css.getD i [])) ∧ Below w.heap.size w wr ∧ w.heap.size + 1 ≤ wr.heap.size) (fun i _ => css.length - (intOf i).toNat)
  case atStart => exact ⟨0, Nat.zero_le _, rfl, ⟨[], rfl, HO.out, fun i h1 => by cases h1⟩, hb1, hs1⟩
  case round =>
    obtain ⟨k, hk, rfl, HR, hb, hsz⟩ := hrel
    by_cases hlt : k < css.length
    · obtain ⟨b, off, u, rfl, hbl, hc, hsb⟩ := HG.out k hlt
      have hc' := (hb.cell (p := ⟨b, off + k, none⟩) hbl).trans hc
      have HS := Lib.hid (hsb.below hb (Nat.le_refl _))
      have hz := hb.size
      have hn3 : (css.getD k []).length < 1099511627776 := by have := HN2.out k hlt; omega
      have HN3 := Lib.hid hn3
      clear hc hsb hn3
      go_wp2_with (go_at_call 7; go_loud (refine (l_toFloat32S _ (css.getD k []) _ HS.out HN3.out).mono ?_; rintro e w2 ⟨u2, rfl, ho2, hb2⟩; obtain ⟨bo2, c2, n2, rfl⟩ : ∃ bo2 c2 n2, u2 = .slice bo2 n2 c2 := (by obtain ⟨a1, a2, a3, a4, -⟩ := ho2.sb.sl; exact ⟨a1, a2, _, a4⟩); have HO2 := Lib.hid ho2; have hz2 := hb2.size; clear ho2; obtain ⟨us, hul, hgo, hrows⟩ := HR.out; obtain ⟨g, cap, hv1, hg1, hg2, hu0, hfz, hst⟩ := (hgo.keep hb2).at_ (k := k) (by rw [List.length_append, List.length_replicate]; omega); simp only [Value.slice.injEq, Option.some.injEq, Addr.mk.injEq, and_true] at hv1; obtain ⟨rfl, hA, hB⟩ := hv1; clear hA hB; have HST := Lib.hid (hst (.slice bo2 n2 c2)); have HUL := Lib.hid hul; have HROWS := Lib.hid hrows; have hu1 : ∃ u0, w2.cell? ⟨w.heap.size, k, none⟩ = some u0 := ⟨_, hu0⟩; clear hu0; obtain ⟨u0, hu0⟩ := hu1; clear hst hgo hul hrows))
      refine ⟨⟨k + 1, by omega, by go_num, ⟨us ++ [Value.slice bo2 n2 c2], by rw [List.length_append, HUL.out]; rfl, ?_, ?_⟩, ?_, ?_⟩, by simp [intOf]; omega⟩
      · have h1 := HST.out.1
        have e : (us ++ List.replicate (css.length - k) (Value.slice none 0 0)).set k (Value.slice bo2 n2 c2) = (us ++ [Value.slice bo2 n2 c2]) ++ List.replicate (css.length - (k + 1)) (Value.slice none 0 0) := by
          have hul := HUL.out
          subst hul
          rw [List.set_append_right _ _ (Nat.le_refl _), Nat.sub_self, List.append_assoc]
          have h2 : css.length - us.length = (css.length - (us.length + 1)) + 1 := by omega
          rw [h2, List.replicate_succ]
          rfl
        rw [e] at h1
        exact h1
      · intro i hi
        have hgr := HST.out.2
        rw [List.length_append] at hi
        have hul := HUL.out
        rcases Nat.lt_or_ge i us.length with h | h
        · rw [List.getElem_append_left h]
          exact ((HROWS.out i h).keep hb2).grown_keep hgr (fun g e => by injection e with e; omega)
        · have hik : i = k := by simp at hi; omega
          subst hik
          rw [List.getElem_append_right (by omega)]
          simp only [hul, Nat.sub_self, List.getElem_cons_zero]
          exact (HO2.out.down (by omega)).grown_keep hgr (fun g e => by injection e with e; omega)
      · exact hb.trans ((hb2.mono hz).setCell (Nat.le_refl _) _)
      · simp; omega
    · go_wp2_with fail
      go_ret
      obtain rfl : k = css.length := by omega
      obtain ⟨us, hul, hgo, hrows⟩ := HR.out
      rw [Nat.sub_self, List.replicate_zero, List.append_nil] at hgo
      refine ⟨_, rfl, ⟨us, ?_, hul, fun i h1 h2 => ?_⟩, hb⟩
      · exact hgo
      · have e : css.getD i [] = css[i] := by simp [h2]
        rw [← e]
        exact (hrows i h1).down (by omega)

theorem l_eqFloat32SS (u v : Value) (css : List (List Nat)) (w : World) (hu : SS w u css) (hv : SS w v css) :
    Calls Try.prog 10 #[u, v] w fun e w' => e = .returned (.bool true) ∧ Dr w w' := by
  obtain ⟨ao, c, rfl, hc1, hc2, hget⟩ := hu.get rfl
  obtain ⟨bo, d, rfl, hd1, hd2, hget2⟩ := hv.get rfl
  have HG := Lib.hid hget
  have HG2 := Lib.hid hget2
  clear hget hget2 hu hv
  go_enter Try.func10, Try.ntmps10
  go_wp2_with fail
  go_loopw [5] (fun i wr => ∃ k : Nat, k ≤ css.length ∧ i = .int .i64 k ∧ ∃ d, wr = w.drewN d) (fun i _ => css.length - (intOf i).toNat)
  case atStart => exact ⟨0, Nat.zero_le _, rfl, 0, rfl⟩
  case round =>
    obtain ⟨k, hk, rfl, dd, rfl⟩ := hrel
    by_cases hlt : k < css.length
    · obtain ⟨b, off, u1, rfl, hb, hc, hs1⟩ := HG.out k hlt
      obtain ⟨b', off', u2, rfl, hb', hc', hs2⟩ := HG2.out k hlt
      have HQ := Lib.hid (fun n => l_eqFloat32S u1 u2 (css.getD k []) (w.drewN n) (hs1.drewN n).sl (hs2.drewN n).sl)
      clear hs1 hs2
      go_wp2_with fail
      go_quiet ((go_at_call 11; first | exact quiet_dr (HQ.out _) | exact quiet_dr2 (HQ.out _)))
      go_wp2_with fail
      refine ⟨⟨k + 1, by omega, by go_num, by first | exact ⟨_, rfl⟩ | exact ⟨_, (World.drewN_drewN ..).symm⟩⟩, by simp [intOf]; omega⟩
    · go_wp2_with fail
      go_ret
      exact ⟨rfl, _, rfl⟩

end Go.Proofs.Ytgonpgfhajfjpaa
