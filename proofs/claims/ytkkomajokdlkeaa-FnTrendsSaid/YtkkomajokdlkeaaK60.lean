/- Contracts: a trend behind numbers, by the program. -/
import Derived.Test.YtkkomajokdlkeaaK22c
import Derived.Test.YtkkomajokdlkeaaK6
import Derived.Test.YtkkomajokdlkeaaBk2
import Derived.Test.YtkkomajokdlkeaaOwn
import Derived.Test.YtkkomajokdlkeaaGen
import Derived.Deep.RegionWith
namespace Go.Proofs.Ytkkomajokdlkeaa
set_option linter.unusedSimpArgs false
set_option linter.unusedVariables false
set_option maxRecDepth 100000
set_option maxHeartbeats 4000000
set_option linter.unusedSimpArgs false
set_option linter.unusedVariables false
open Go.RowKit
attribute [local go_sem] run_store_float run_store_complex alloc_drewN setCell_drewN dmUpon

def tsL : List Nat → Nat → Bool → List Nat × Nat × Bool
  | [l, s, a, b, c, n, d, t], x, seen => tsQ l s a b c n d t x seen
  | _, _, _ => (zeros8, 0, false)
def trAt (T xs : List Nat) (ss : List Bool) : Nat → List Nat × List Nat × Bool
  | 0 => (T, [], true)
  | k + 1 => ((tsL (trAt T xs ss k).1 (xs.getD k 0) (ss.getD k false)).1, (trAt T xs ss k).2.1 ++ [(tsL (trAt T xs ss k).1 (xs.getD k 0) (ss.getD k false)).2.1], (trAt T xs ss k).2.2 && (tsL (trAt T xs ss k).1 (xs.getD k 0) (ss.getD k false)).2.2)
theorem trAt_length (T xs : List Nat) (ss : List Bool) (k : Nat) : (trAt T xs ss k).2.1.length = k := by
  induction k with
  | zero => rfl
  | succ k ih => simp [trAt, ih]
theorem trAt_stays {T xs : List Nat} {ss : List Bool} {k n : Nat} (h : (trAt T xs ss k).2.2 = false) (hk : k ≤ n) : (trAt T xs ss n).2.2 = false := by
  induction hk with
  | refl => exact h
  | step _ ih => show (_ && _) = false; rw [ih]; rfl
def trQ (T xs : List Nat) (ss : List Bool) : List Nat × List Nat × Bool :=
  if trendOkL T && series xs && decide (ss.length = xs.length) && (trAt T xs ss xs.length).2.2 then trAt T xs ss xs.length else (zeros8, [], false)
theorem trQ_no {T xs : List Nat} {ss : List Bool} (h : (trendOkL T && series xs && decide (ss.length = xs.length) && (trAt T xs ss xs.length).2.2) = false) : trQ T xs ss = (zeros8, [], false) := by rw [trQ, h]; rfl
theorem trQ_yes {T xs : List Nat} {ss : List Bool} (h : (trendOkL T && series xs && decide (ss.length = xs.length) && (trAt T xs ss xs.length).2.2) = true) : trQ T xs ss = trAt T xs ss xs.length := by rw [trQ, h]; rfl
def TRE (T base : Nat) (w : World) (e : Ending) (q : List Nat × List Nat × Bool) : Prop :=
  ∃ r0 r1 r2 r3 r4 r5 r6 r7 v b, e = .returned (.tuple #[.agg #[.float .f32 r0, .float .f32 r1, .float .f32 r2, .float .f32 r3, .float .f32 r4, .float .f32 r5, .float .f32 r6, .float .f32 r7], v, .bool b]) ∧ [cn .f32 r0, cn .f32 r1, cn .f32 r2, cn .f32 r3, cn .f32 r4, cn .f32 r5, cn .f32 r6, cn .f32 r7] = q.1 ∧ OW T base w v q.2.1 ∧ b = q.2.2 ∧ ∀ x ∈ [r0, r1, r2, r3, r4, r5, r6, r7], x < 4294967296
theorem all8 {q0 q1 q2 q3 q4 q5 q6 q7 : Nat} (h0 : q0 < 4294967296) (h1 : q1 < 4294967296) (h2 : q2 < 4294967296) (h3 : q3 < 4294967296) (h4 : q4 < 4294967296) (h5 : q5 < 4294967296) (h6 : q6 < 4294967296) (h7 : q7 < 4294967296) : ∀ x ∈ [q0, q1, q2, q3, q4, q5, q6, q7], x < 4294967296 := by
  intro x hx
  simp only [List.mem_cons, List.not_mem_nil, or_false] at hx
  omega
theorem TRE.no (T base : Nat) (w : World) {q : List Nat × List Nat × Bool} (hq : q = (zeros8, [], false)) : TRE T base w (.returned (.tuple #[.agg #[.float .f32 0, .float .f32 0, .float .f32 0, .float .f32 0, .float .f32 0, .float .f32 0, .float .f32 0, .float .f32 0], .slice none 0 0, .bool false])) q := by
  subst hq
  exact ⟨0, 0, 0, 0, 0, 0, 0, 0, _, _, rfl, by rw [cn0]; rfl, OW.nil .., rfl, all8 (by omega) (by omega) (by omega) (by omega) (by omega) (by omega) (by omega) (by omega)⟩
theorem SL.slice2 {w : World} {v : Value} {cs : List Nat} (h : SL w v cs) : ∃ ao c, v = .slice ao cs.length c ∧ cs.length ≤ c ∧ c ≤ 9223372036854775807 := by
  obtain ⟨ao, c, xs, rfl, rfl, h3, _⟩ := h
  exact ⟨ao, c, by simp, by simpa using h3.1, h3.2⟩
theorem SB.get60 {w : World} {ao : Option Addr} {n c : Nat} {cs : List Nat} (h : SB w (.slice ao n c) cs) : ∀ i, i < cs.length → ∃ b off r, ao = some ⟨b, off, none⟩ ∧ b < w.heap.size ∧ w.cell? ⟨b, off + i, none⟩ = some (.float .f32 r) ∧ r < 4294967296 ∧ cn .f32 r = cs.getD i 0 := by
  obtain ⟨bo, d, xs, hv, rfl, h3, h5, h4⟩ := h
  simp only [Value.slice.injEq] at hv
  obtain ⟨rfl, rfl, rfl⟩ := hv
  intro i hi
  have hi' : i < xs.length := by simpa using hi
  obtain ⟨b, off, e1, e2, e3⟩ := h4 i hi'
  exact ⟨b, off, xs[i], e1, e2, e3, h5 _ (List.getElem_mem hi'), by simp [hi']⟩
theorem gl_get60 {w : World} {ao : Option Addr} {m c : Nat} {xs : List Bool} (h : GL Value.bool w (.slice ao m c) xs) {n : Nat} (hn : xs.length = n) : ∀ i, i < n → ∃ b off, ao = some ⟨b, off, none⟩ ∧ b < w.heap.size ∧ w.cell? ⟨b, off + i, none⟩ = some (.bool (xs.getD i false)) := by
  obtain ⟨bo, d, hv, hc, hget⟩ := h
  simp only [Value.slice.injEq] at hv
  obtain ⟨rfl, -, -⟩ := hv
  subst hn
  intro i hi
  obtain ⟨b, off, e1, e2, e3⟩ := hget i hi
  exact ⟨b, off, e1, e2, by rw [e3]; simp [hi]⟩
theorem series_len2 {cs : List Nat} (h : series cs = true) : 1 ≤ cs.length ∧ cs.length ≤ 96 := by
  simp only [series, Bool.and_eq_true, decide_eq_true_eq] at h
  exact h.1
theorem BK.grown60 {w w' : World} {p : Nat} {vs : List Value} {r : Option Nat} (h : BK w p vs) (hg : w.grownBy w' r) (hr : r ≠ some p) : BK w' p vs := by
  have hb := hg.block p h.lt (fun e => hr e.symm)
  refine ⟨Nat.lt_of_lt_of_le h.lt hg.size, fun i hi => (World.cell?_of_block hb).trans (h.cells i hi), fun i => ?_⟩
  have h1 := h.fro i
  simp only [World.frozen?, hb] at h1 ⊢
  exact h1
theorem wp_storeAgg60 {P : Program} {Q : Exit → Act → World → Prop} {a : Act} {w : World} {K : Act → World → Prop} {T type : TypeId} {x y : Operand} {pos : String} {after : Array Edge} {p j : Nat} {us vs : List Value}
    (hs0 : ∀ w, (Instr.storeAt T (.pointer (some ⟨p, j, none⟩)) (.agg us.toArray)).run P w = (storeCells ⟨p, j, none⟩ us 0).run P w) (hx : a.eval x = .pointer (some ⟨p, j, none⟩)) (hy : a.eval y = .agg us.toArray) (h1 : ∀ u ∈ us, u.oneCell' = true) (HB : BK w p vs) (hj : j + us.length ≤ vs.length)
    (h : ∀ W, BK W p (setsAt vs us j) → (∀ q xs, BK w q xs → q ≠ p → BK W q xs) → (∀ B s, Below B s w → B ≤ p → Below B s W) → w.heap.size ≤ W.heap.size → w.grownBy W (some p) → K a W) :
    Oper.wp P { dst := none, op := .store T x y, type := type, pos := pos, after := after, guard := none } a w K Q := by
  obtain ⟨W, hr, h2, h3, h4, h5, h6⟩ := storeCells_BK P p us 0 j vs w HB (by omega) h1
  unfold Oper.wp
  simp [execOp, hx, hy, hs0, hr, Result.andThen]
  exact h W h2 h3 h4 h5 h6
theorem k_world {K : Act → World → Prop} {a : Act} {w : World} (h : ∀ W, W = w → K a W) : K a w := h w rfl

theorem f32sR : F32s Try.prog 26 33 := f32s_of Try.underlying26 (by kernel_rfl)
theorem storeTr2 (p j a b c d e f g h : Nat) : ∀ w, (Instr.storeAt 47 (.pointer (some ⟨p, j, none⟩)) (.agg [.float .f32 a, .float .f32 b, .float .f32 c, .float .f32 d, .float .f32 e, .float .f32 f, .float .f32 g, .float .f32 h].toArray)).run Try.prog w = (storeCells ⟨p, j, none⟩ [.float .f32 a, .float .f32 b, .float .f32 c, .float .f32 d, .float .f32 e, .float .f32 f, .float .f32 g, .float .f32 h] 0).run Try.prog w := by intro w; go_simp
theorem storeTrN (w : World) (a b c d e f g h : Nat) : (Instr.storeAt 47 (.pointer (some ⟨w.heap.size, 0, none⟩)) (.agg #[.float .f32 a, .float .f32 b, .float .f32 c, .float .f32 d, .float .f32 e, .float .f32 f, .float .f32 g, .float .f32 h])).run Try.prog (w.alloc (.cells #[.float .f32 0, .float .f32 0, .float .f32 0, .float .f32 0, .float .f32 0, .float .f32 0, .float .f32 0, .float .f32 0] 47)) = .ok () (w.alloc (.cells #[.float .f32 a, .float .f32 b, .float .f32 c, .float .f32 d, .float .f32 e, .float .f32 f, .float .f32 g, .float .f32 h] 47)) := by
  go_simp
attribute [local go_sem ↓] storeTrN
theorem BK.newAt2 {n : Nat} (w : World) (vs : List Value) (T : TypeId) (hn : n = w.heap.size) : BK (w.alloc (.cells vs.toArray T)) n vs := by subst hn; exact BK.new w vs T
set_option maxRecDepth 100000 in
set_option maxHeartbeats 8000000 in
theorem i_TrendRun (l s a b c n d t : Nat) (hl : l < 4294967296) (hs : s < 4294967296) (ha : a < 4294967296) (hb : b < 4294967296) (hc : c < 4294967296) (hn : n < 4294967296) (hd : d < 4294967296) (ht : t < 4294967296) (v : Value) (xs : List Nat) (u : Value) (ss : List Bool) (w : World) (hv : SB w v xs) (hu : GL Value.bool w u ss) :
    Calls Try.prog 25 #[.agg #[.float .f32 l, .float .f32 s, .float .f32 a, .float .f32 b, .float .f32 c, .float .f32 n, .float .f32 d, .float .f32 t], v, u] w fun z w' => TRE 33 w.heap.size w' z (trQ [cn .f32 l, cn .f32 s, cn .f32 a, cn .f32 b, cn .f32 c, cn .f32 n, cn .f32 d, cn .f32 t] xs ss) ∧ Below w.heap.size w w' := by
  obtain ⟨ao, ac, rfl, hac1, hac2⟩ := hv.sl.slice2
  obtain ⟨uo, uc, rfl, huc1, huc2⟩ := hu.slice
  have HV := Lib.hid hv
  have HU := Lib.hid hu
  clear hv hu
  cases hT : trendOk (cn .f32 l) (cn .f32 s) (cn .f32 a) (cn .f32 b) (cn .f32 c) (cn .f32 n) (cn .f32 d) (cn .f32 t)
  · have HT := Lib.hid hT
    have HQ := Lib.hid (trQ_no (T := [cn .f32 l, cn .f32 s, cn .f32 a, cn .f32 b, cn .f32 c, cn .f32 n, cn .f32 d, cn .f32 t]) (xs := xs) (ss := ss) (by rw [trendOkL, hT]; rfl))
    clear hT
    go_enter Try.func25, Try.ntmps25
    go_wp2_with (first
      | (go_at_call 27; refine (i_ValidTrend l s a b c n d t _).mono ?_; rintro z w1 ⟨rfl, hb1⟩; rw [HT.out]; have hbw : Below w.heap.size w w1 := (by (repeat (first | with_reducible exact Below.refl _ _ | with_reducible assumption | with_reducible refine below_drewN ?_ _ | with_reducible refine Below.drew ?_ | with_reducible refine Below.alloc ?_ (by first | omega | (simp; omega) | (simp; done) | (simp at *; omega)) _ | with_reducible refine Below.setCell ?_ (by first | omega | (simp; omega) | (simp; done) | (simp at *; omega)) _ | refine Below.trans ?_ (Below.mono (by with_reducible assumption) (by first | omega | (simp; omega) | (simp; done) | (simp at *; omega)))))); have HA := Lib.hid (show BK w1 w.heap.size [.float .f32 l, .float .f32 s, .float .f32 a, .float .f32 b, .float .f32 c, .float .f32 n, .float .f32 d, .float .f32 t] from BK.keep (BK.alloc (BK.newAt2 _ _ _ rfl) _) hb1); have HE := Lib.hid (show BK w1 (w.heap.size + 1) [.float .f32 0, .float .f32 0, .float .f32 0, .float .f32 0, .float .f32 0, .float .f32 0, .float .f32 0, .float .f32 0] from BK.keep (BK.newAt2 _ _ _ (by simp)) hb1); have hz1 := hbw.size; clear hb1; have hca := HA.out.cells; have hce := HE.out.cells; have hfe := HE.out.fro)
      | (refine wpList_storeAgg (us := [.float .f32 0, .float .f32 0, .float .f32 0, .float .f32 0, .float .f32 0, .float .f32 0, .float .f32 0, .float .f32 0]) (storeTr2 _ _ 0 0 0 0 0 0 0 0) rfl rfl (by simp [Value.oneCell']) (by first | exact HE.out | exact BK.drewN HE.out _) (by simp) ?_; intro W5 hB hO hL hZ hG; have HE5 := Lib.hid hB; have hbw5 := hL _ _ (by first | exact hbw | exact below_drewN hbw _) (by omega); clear hB hO hL hG hce hfe; simp [setsAt] at HE5; have hce := HE5.out.cells))
    (try simp only [Exit.inBlock, Exit.then])
    refine bodyPost_ret (by simp [results, Try.results25, go_sem, hce]; try rfl) rfl ⟨TRE.no _ _ _ HQ.out, hbw5⟩
  · cases hs : series xs
    · have HT := Lib.hid hT
      have HS := Lib.hid hs
      have HQ := Lib.hid (trQ_no (T := [cn .f32 l, cn .f32 s, cn .f32 a, cn .f32 b, cn .f32 c, cn .f32 n, cn .f32 d, cn .f32 t]) (xs := xs) (ss := ss) (by rw [hs, Bool.and_false]; rfl))
      clear hT hs
      go_enter Try.func25, Try.ntmps25
      go_wp2_with (first
        | (go_at_call 27; refine (i_ValidTrend l s a b c n d t _).mono ?_; rintro z w1 ⟨rfl, hb1⟩; rw [HT.out]; have hbw : Below w.heap.size w w1 := (by (repeat (first | with_reducible exact Below.refl _ _ | with_reducible assumption | with_reducible refine below_drewN ?_ _ | with_reducible refine Below.drew ?_ | with_reducible refine Below.alloc ?_ (by first | omega | (simp; omega) | (simp; done) | (simp at *; omega)) _ | with_reducible refine Below.setCell ?_ (by first | omega | (simp; omega) | (simp; done) | (simp at *; omega)) _ | refine Below.trans ?_ (Below.mono (by with_reducible assumption) (by first | omega | (simp; omega) | (simp; done) | (simp at *; omega)))))); have HA := Lib.hid (show BK w1 w.heap.size [.float .f32 l, .float .f32 s, .float .f32 a, .float .f32 b, .float .f32 c, .float .f32 n, .float .f32 d, .float .f32 t] from BK.keep (BK.alloc (BK.newAt2 _ _ _ rfl) _) hb1); have HE := Lib.hid (show BK w1 (w.heap.size + 1) [.float .f32 0, .float .f32 0, .float .f32 0, .float .f32 0, .float .f32 0, .float .f32 0, .float .f32 0, .float .f32 0] from BK.keep (BK.newAt2 _ _ _ (by simp)) hb1); have hz1 := hbw.size; clear hb1; have hca := HA.out.cells; have hce := HE.out.cells; have hfe := HE.out.fro)
        | (go_at_call 60; refine (i_IsSeries _ xs _ (SB.sl (SB.keep HV.out (by first | exact hbw | exact below_drewN hbw _)))).mono ?_; rintro z w2 ⟨rfl, n2, rfl⟩; rw [HS.out])
        | (refine wpList_storeAgg (us := [.float .f32 0, .float .f32 0, .float .f32 0, .float .f32 0, .float .f32 0, .float .f32 0, .float .f32 0, .float .f32 0]) (storeTr2 _ _ 0 0 0 0 0 0 0 0) rfl rfl (by simp [Value.oneCell']) (by first | exact HE.out | exact BK.drewN HE.out _) (by simp) ?_; intro W5 hB hO hL hZ hG; have HE5 := Lib.hid hB; have hbw5 := hL _ _ (by first | exact hbw | exact below_drewN hbw _) (by omega); clear hB hO hL hG hce hfe; simp [setsAt] at HE5; have hce := HE5.out.cells))
      (try simp only [Exit.inBlock, Exit.then])
      refine bodyPost_ret (by simp [results, Try.results25, go_sem, hce]; try rfl) rfl ⟨TRE.no _ _ _ HQ.out, hbw5⟩
    · by_cases hl : ss.length = xs.length
      · have HT := Lib.hid hT
        have HS := Lib.hid hs
        have hln := series_len2 hs
        have HQN := Lib.hid (fun (h : (trAt [cn .f32 l, cn .f32 s, cn .f32 a, cn .f32 b, cn .f32 c, cn .f32 n, cn .f32 d, cn .f32 t] xs ss xs.length).2.2 = false) => trQ_no (T := [cn .f32 l, cn .f32 s, cn .f32 a, cn .f32 b, cn .f32 c, cn .f32 n, cn .f32 d, cn .f32 t]) (xs := xs) (ss := ss) (by rw [h, Bool.and_false]))
        have HQY := Lib.hid (fun (h : (trAt [cn .f32 l, cn .f32 s, cn .f32 a, cn .f32 b, cn .f32 c, cn .f32 n, cn .f32 d, cn .f32 t] xs ss xs.length).2.2 = true) => trQ_yes (T := [cn .f32 l, cn .f32 s, cn .f32 a, cn .f32 b, cn .f32 c, cn .f32 n, cn .f32 d, cn .f32 t]) (xs := xs) (ss := ss) (by rw [trendOkL, hT, hs, decide_eq_true hl, h]; rfl))
        clear hT hs
        obtain ⟨TT, hTT⟩ : ∃ TT, TT = [cn .f32 l, cn .f32 s, cn .f32 a, cn .f32 b, cn .f32 c, cn .f32 n, cn .f32 d, cn .f32 t] := ⟨_, rfl⟩
        rw [← hTT] at HQN HQY ⊢
        have HTT := Lib.hid hTT
        clear hTT
        have HG := Lib.hid (SB.get60 HV.out)
        have HGU := Lib.hid (gl_get60 (show GL Value.bool w (.slice uo ss.length uc) ss from HU.out) hl)
        rw [hl]
        clear hl huc1
        go_enter Try.func25, Try.ntmps25
        go_wp2_with (first
          | (go_at_call 27; refine (i_ValidTrend l s a b c n d t _).mono ?_; rintro z w1 ⟨rfl, hb1⟩; rw [HT.out]; have hbw : Below w.heap.size w w1 := (by (repeat (first | with_reducible exact Below.refl _ _ | with_reducible assumption | with_reducible refine below_drewN ?_ _ | with_reducible refine Below.drew ?_ | with_reducible refine Below.alloc ?_ (by first | omega | (simp; omega) | (simp; done) | (simp at *; omega)) _ | with_reducible refine Below.setCell ?_ (by first | omega | (simp; omega) | (simp; done) | (simp at *; omega)) _ | refine Below.trans ?_ (Below.mono (by with_reducible assumption) (by first | omega | (simp; omega) | (simp; done) | (simp at *; omega)))))); have HA := Lib.hid (show BK w1 w.heap.size [.float .f32 l, .float .f32 s, .float .f32 a, .float .f32 b, .float .f32 c, .float .f32 n, .float .f32 d, .float .f32 t] from BK.keep (BK.alloc (BK.newAt2 _ _ _ rfl) _) hb1); have HE := Lib.hid (show BK w1 (w.heap.size + 1) [.float .f32 0, .float .f32 0, .float .f32 0, .float .f32 0, .float .f32 0, .float .f32 0, .float .f32 0, .float .f32 0] from BK.keep (BK.newAt2 _ _ _ (by simp)) hb1); have hz1 := hbw.size; clear hb1; have hca := HA.out.cells; have hce := HE.out.cells; have hfe := HE.out.fro)
          | (go_at_call 60; refine (i_IsSeries _ xs _ (SB.sl (SB.keep HV.out (by first | exact hbw | exact below_drewN hbw _)))).mono ?_; rintro z w2 ⟨rfl, n2, rfl⟩; rw [HS.out]))
        have hzz := hbw.size
        have hA1 := HA.out.lt
        have hE1 := HE.out.lt
        clear hca hce hfe
        go_loopw [9, 34] (fun o i wr => ∃ k : Nat, k ≤ xs.length ∧ i = .int .i64 (k : Int) ∧ (∃ q0 q1 q2 q3 q4 q5 q6 q7, (q0 < 4294967296 ∧ q1 < 4294967296 ∧ q2 < 4294967296 ∧ q3 < 4294967296 ∧ q4 < 4294967296 ∧ q5 < 4294967296 ∧ q6 < 4294967296 ∧ q7 < 4294967296) ∧ Hid (BK wr w.heap.size [.float .f32 q0, .float .f32 q1, .float .f32 q2, .float .f32 q3, .float .f32 q4, .float .f32 q5, .float .f32 q6, .float .f32 q7]) ∧ Hid ([cn .f32 q0, cn .f32 q1, cn .f32 q2, cn .f32 q3, cn .f32 q4, cn .f32 q5, cn .f32 q6, cn .f32 q7] = (trAt TT xs ss k).1)) ∧ Hid (BK wr (w.heap.size + 1) [.float .f32 0, .float .f32 0, .float .f32 0, .float .f32 0, .float .f32 0, .float .f32 0, .float .f32 0, .float .f32 0]) ∧ Hid (OW 33 (w.heap.size + 2) wr o (trAt TT xs ss k).2.1) ∧ Hid ((trAt TT xs ss k).2.2 = true) ∧ Below w.heap.size w wr) (fun _ i _ => xs.length - (intOf i).toNat)
        case atStart => exact ⟨0, Nat.zero_le _, rfl, ⟨l, s, a, b, c, n, d, t, ⟨hl, hs, ha, hb, hc, hn, hd, ht⟩, Lib.hid (by first | exact BK.alloc (BK.drewN HA.out _) _ | exact BK.drewN (BK.alloc HA.out _) _ | exact BK.alloc HA.out _), Lib.hid HTT.out.symm⟩, Lib.hid (by first | exact BK.alloc (BK.drewN HE.out _) _ | exact BK.drewN (BK.alloc HE.out _) _ | exact BK.alloc HE.out _), Lib.hid (by first | exact OW.empty _ _ rfl (by omega) | exact OW.drewN (OW.empty _ _ rfl (by omega)) _), rfl, by (repeat (first | with_reducible exact Below.refl _ _ | with_reducible assumption | with_reducible refine below_drewN ?_ _ | with_reducible refine Below.drew ?_ | with_reducible refine Below.alloc ?_ (by first | omega | (simp; omega) | (simp; done) | (simp at *; omega)) _ | with_reducible refine Below.setCell ?_ (by first | omega | (simp; omega) | (simp; done) | (simp at *; omega)) _ | refine Below.trans ?_ (Below.mono (by with_reducible assumption) (by first | omega | (simp; omega) | (simp; done) | (simp at *; omega)))))⟩
        case round =>
          obtain ⟨k, hk, rfl, ⟨q0, q1, q2, q3, q4, q5, q6, q7, ⟨hq0, hq1, hq2, hq3, hq4, hq5, hq6, hq7⟩, HA, HTA⟩, HE, HO, HOK, hb⟩ := hrel
          have hz := hb.size
          have hA1 := HA.out.lt
          have hE1 := HE.out.lt
          by_cases hlt : k < xs.length
          · obtain ⟨b1, o1, x, rfl, hbl, hc, hx, hcx⟩ := HG.out k hlt
            obtain ⟨b2, o2, rfl, hbl2, hc2⟩ := HGU.out k hlt
            have hc' := (hb.cell (p := ⟨b1, o1 + k, none⟩) hbl).trans hc
            have hc2' := (hb.cell (p := ⟨b2, o2 + k, none⟩) hbl2).trans hc2
            obtain ⟨sb, hsb⟩ : ∃ sb, sb = ss.getD k false := ⟨_, rfl⟩
            rw [← hsb] at hc2'
            have j1 : (k : Int) < (xs.length : Int) := by omega
            have hbl2' : b2 < wr.heap.size := by omega
            have hbl1' : b1 < wr.heap.size := by omega
            have HST := Lib.hid (show tsL (trAt TT xs ss k).1 (xs.getD k 0) (ss.getD k false) = tsQ (cn .f32 q0) (cn .f32 q1) (cn .f32 q2) (cn .f32 q3) (cn .f32 q4) (cn .f32 q5) (cn .f32 q6) (cn .f32 q7) (cn .f32 x) sb by rw [← HTA.out, ← hcx, ← hsb]; rfl)
            have hca := HA.out.cells; have hce := HE.out.cells; have hfe := HE.out.fro
            clear hc hc2 hcx hsb
            cases hok : (tsQ (cn .f32 q0) (cn .f32 q1) (cn .f32 q2) (cn .f32 q3) (cn .f32 q4) (cn .f32 q5) (cn .f32 q6) (cn .f32 q7) (cn .f32 x) sb).2.2
            case false =>
              have HK := Lib.hid hok
              clear hok
              have HSB := Lib.hid hc2'
              have HOL := Lib.hid (fun g hg => (HO.out.block g hg).2)
              go_wp2_with fail
              clear hca hce hfe
              refine wp_region_held_drew (S := (fun W => (∀ i, i < 8 → W.cell? ⟨w.heap.size, i, none⟩ = ([.float .f32 q0, .float .f32 q1, .float .f32 q2, .float .f32 q3, .float .f32 q4, .float .f32 q5, .float .f32 q6, .float .f32 q7] : List Value)[i]?) ∧ W.cell? ⟨b2, o2 + k, none⟩ = some (.bool sb))) (by kernel_rfl) (by first | exact ⟨HA.out.cells, HSB.out⟩ | exact ⟨(BK.drew HA.out).cells, HSB.out⟩ | exact ⟨(BK.drewN HA.out _).cells, HSB.out⟩ | (simp; done)) (fun hH0 => ?_)
              refine wpAnyH_take (i := 0) (oi := { dst := some 40, op := Op.load 47 (Operand.tmp 3), type := 47, pos := "l05_models.go:391", after := #[], guard := none }) (v := ?_) rfl (by kernel_rfl) (by kernel_rfl) (by kernel_rfl) (fun _ _ _ h => h) (Or.inl ⟨by rfl, ?_⟩) hH0 ?_
              rotate_left
              · (intro w hSw; (try dsimp only at hSw); go_simp; try with_reducible rfl)
              (try simp only [Act.put, List.setIfInBounds_toArray, List.set_cons_zero, List.set_cons_succ])
              refine wpAnyH_take (i := 1) (oi := { dst := some 41, op := Op.move (Operand.tmp 11), type := 33, pos := "l05_models.go:391", after := #[], guard := none }) (v := ?_) rfl (by kernel_rfl) (by kernel_rfl) (by kernel_rfl) (fun _ _ _ h => h) (Or.inl ⟨by rfl, ?_⟩) hH0 ?_
              rotate_left
              · (intro w hSw; (try dsimp only at hSw); go_simp; try with_reducible rfl)
              (try simp only [Act.put, List.setIfInBounds_toArray, List.set_cons_zero, List.set_cons_succ])
              refine wpAnyH_take (i := 2) (oi := { dst := some 42, op := Op.move (Operand.tmp 2), type := 50, pos := "l05_models.go:391", after := #[], guard := none }) (v := ?_) rfl (by kernel_rfl) (by kernel_rfl) (by kernel_rfl) (fun _ _ _ h => h) (Or.inl ⟨by rfl, ?_⟩) hH0 ?_
              rotate_left
              · (intro w hSw; (try dsimp only at hSw); go_simp; try with_reducible rfl)
              (try simp only [Act.put, List.setIfInBounds_toArray, List.set_cons_zero, List.set_cons_succ])
              refine wpAnyH_take (i := 3) (oi := { dst := some 43, op := Op.move (Operand.tmp 10), type := 3, pos := "l05_models.go:391", after := #[], guard := none }) (v := ?_) rfl (by kernel_rfl) (by kernel_rfl) (by kernel_rfl) (fun _ _ _ h => h) (Or.inl ⟨by rfl, ?_⟩) hH0 ?_
              rotate_left
              · (intro w hSw; (try dsimp only at hSw); go_simp; try with_reducible rfl)
              (try simp only [Act.put, List.setIfInBounds_toArray, List.set_cons_zero, List.set_cons_succ])
              refine wpAnyH_take (i := 4) (oi := { dst := some 44, op := Op.indexAddr 50 (Operand.tmp 42) (Operand.tmp 43), type := 0, pos := "l05_models.go:391", after := #[{ on := 2, ground := Ground.data }, { on := 3, ground := Ground.data }], guard := none }) (v := ?_) rfl (by kernel_rfl) (by kernel_rfl) (by kernel_rfl) (fun _ _ _ h => h) (Or.inl ⟨by rfl, ?_⟩) hH0 ?_
              rotate_left
              · (intro w hSw; (try dsimp only at hSw); go_simp; try with_reducible rfl)
              (try simp only [Act.put, List.setIfInBounds_toArray, List.set_cons_zero, List.set_cons_succ])
              refine wpAnyH_take (i := 5) (oi := { dst := some 45, op := Op.load 4 (Operand.tmp 44), type := 4, pos := "l05_models.go:391", after := #[{ on := 4, ground := Ground.data }], guard := none }) (v := ?_) rfl (by kernel_rfl) (by kernel_rfl) (by kernel_rfl) (fun _ _ _ h => h) (Or.inl ⟨by rfl, ?_⟩) hH0 ?_
              rotate_left
              · (intro w hSw; (try dsimp only at hSw); go_simp; try with_reducible rfl)
              (try simp only [Act.put, List.setIfInBounds_toArray, List.set_cons_zero, List.set_cons_succ])
              refine wpAnyH_ready (rs := [6, 11]) (by kernel_rfl) (by simp) (AllReadyH.cons (o := { dst := some 46, op := Op.call { callee := Callee.value (Operand.func 30), args := #[Operand.tmp 40, Operand.tmp 41, Operand.tmp 45], argTypes := #[47, 33, 4] }, type := 56, pos := "l05_models.go:391", after := #[{ on := 0, ground := Ground.data }, { on := 1, ground := Ground.data }, { on := 5, ground := Ground.data }], guard := none }) rfl (fun K hK => ?e1) (AllReadyH.cons (o := { dst := some 12, op := Op.alloc 47, type := 0, pos := "l05_models.go:391", after := #[], guard := none }) rfl (fun K hK => ?e2) AllReadyH.nil))
              case e1 =>
                go_simp
                go_at_call 30
                refine (i_TrendStep q0 q1 q2 q3 q4 q5 q6 q7 x hq0 hq1 hq2 hq3 hq4 hq5 hq6 hq7 hx sb _).mono ?_
                rintro z w4 ⟨hte, hb4⟩
                obtain ⟨r0, r1, r2, r3, r4, r5, r6, r7, rE, ok, rfl, hbds, hq⟩ := hte
                have hok2 : ok = _ := (congrArg (fun p => p.2.2) hq).symm.trans HK.out
                subst hok2
                have HQ4 := Lib.hid hq
                clear hq
                have hyy := hb4.size
                (try simp only [World.heap_drewN, World.size_drew] at hyy)
                replace HA := Lib.hid (BK.keep (by first | exact HA.out | exact BK.drew HA.out | exact BK.drewN HA.out _) hb4)
                replace HE := Lib.hid (BK.keep (by first | exact HE.out | exact BK.drew HE.out | exact BK.drewN HE.out _) hb4)
                replace HO := Lib.hid (OW.keep (by first | exact HO.out | exact OW.drew HO.out | exact OW.drewN HO.out _) hb4)
                replace HSB := Lib.hid ((hb4.cell (p := ⟨b2, o2 + k, none⟩) (by (try simp only [World.heap_drewN, World.size_drew]); omega)).trans HSB.out)
                (try (replace HXB := Lib.hid ((hb4.cell (p := ⟨b1, o1 + k, none⟩) (by (try simp only [World.heap_drewN, World.size_drew]); omega)).trans HXB.out)))
                (try (replace HN := Lib.hid (BK.keep (by first | exact HN.out | exact BK.drew HN.out | exact BK.drewN HN.out _) hb4)))
                replace hb := Below.trans (by first | exact hb | exact Below.drew hb | exact below_drewN hb _) (hb4.mono (by (try simp only [World.heap_drewN, World.size_drew]); omega))
                clear hb4
                refine hK.out _ _ (by first | exact ⟨HA.out.cells, HSB.out⟩ | exact ⟨(BK.drew HA.out).cells, HSB.out⟩ | exact ⟨(BK.drewN HA.out _).cells, HSB.out⟩ | (simp; done)) (fun hH1 => ?_)
                clear hK K hH0
                (try simp only [Act.put, List.setIfInBounds_toArray, List.set_cons_zero, List.set_cons_succ])
                refine wpAnyH_take (i := 7) (oi := { dst := some 39, op := Op.move (Operand.tmp 46), type := 56, pos := "l05_models.go:391", after := #[{ on := 6, ground := Ground.data }], guard := none }) (v := ?_) rfl (by kernel_rfl) (by kernel_rfl) (by kernel_rfl) (fun _ _ _ h => h) (Or.inl ⟨by rfl, ?_⟩) hH1 ?_
                rotate_left
                · (intro w hSw; (try dsimp only at hSw); go_simp; try with_reducible rfl)
                (try simp only [Act.put, List.setIfInBounds_toArray, List.set_cons_zero, List.set_cons_succ])
                refine wpAnyH_take (i := 8) (oi := { dst := some 47, op := Op.extract (Operand.tmp 39) 0, type := 47, pos := "l05_models.go:391", after := #[{ on := 7, ground := Ground.data }], guard := none }) (v := ?_) rfl (by kernel_rfl) (by kernel_rfl) (by kernel_rfl) (fun _ _ _ h => h) (Or.inl ⟨by rfl, ?_⟩) hH1 ?_
                rotate_left
                · (intro w hSw; (try dsimp only at hSw); go_simp; try with_reducible rfl)
                (try simp only [Act.put, List.setIfInBounds_toArray, List.set_cons_zero, List.set_cons_succ])
                refine wpAnyH_take (i := 9) (oi := { dst := some 48, op := Op.extract (Operand.tmp 39) 1, type := 33, pos := "l05_models.go:391", after := #[{ on := 7, ground := Ground.data }, { on := 12, ground := Ground.gcOnly Departure.lateStores }], guard := none }) (v := ?_) rfl (by kernel_rfl) (by kernel_rfl) (by kernel_rfl) (fun _ _ _ h => h) (Or.inl ⟨by rfl, ?_⟩) hH1 ?_
                rotate_left
                · (intro w hSw; (try dsimp only at hSw); go_simp; try with_reducible rfl)
                (try simp only [Act.put, List.setIfInBounds_toArray, List.set_cons_zero, List.set_cons_succ])
                refine wpAnyH_take (i := 10) (oi := { dst := some 49, op := Op.extract (Operand.tmp 39) 2, type := 4, pos := "l05_models.go:391", after := #[{ on := 7, ground := Ground.data }, { on := 13, ground := Ground.gcOnly Departure.lateStores }], guard := none }) (v := ?_) rfl (by kernel_rfl) (by kernel_rfl) (by kernel_rfl) (fun _ _ _ h => h) (Or.inl ⟨by rfl, ?_⟩) hH1 ?_
                rotate_left
                · (intro w hSw; (try dsimp only at hSw); go_simp; try with_reducible rfl)
                (try simp only [Act.put, List.setIfInBounds_toArray, List.set_cons_zero, List.set_cons_succ])
                refine wpAnyH_ready (rs := [11]) (by kernel_rfl) (by simp) (AllReadyH.cons (o := { dst := some 12, op := Op.alloc 47, type := 0, pos := "l05_models.go:391", after := #[], guard := none }) rfl (fun K hK => ?e3) AllReadyH.nil)
                go_simp
                refine k_world fun W7 hW7 => ?_
                have HW7 := Lib.hid hW7
                clear hW7
                have HN : Hid (BK W7 _ [.float .f32 0, .float .f32 0, .float .f32 0, .float .f32 0, .float .f32 0, .float .f32 0, .float .f32 0, .float .f32 0]) := Lib.hid (by rw [HW7.out]; first | exact BK.newAt2 _ _ _ rfl | exact BK.drew (BK.newAt2 _ _ _ rfl) | exact BK.drewN (BK.newAt2 _ _ _ rfl) _)
                have hzn := HN.out.lt
                replace HA : Hid (BK W7 w.heap.size [.float .f32 q0, .float .f32 q1, .float .f32 q2, .float .f32 q3, .float .f32 q4, .float .f32 q5, .float .f32 q6, .float .f32 q7]) := Lib.hid (by rw [HW7.out]; first | exact BK.alloc HA.out _ | exact BK.alloc (BK.drew HA.out) _ | exact BK.drew (BK.alloc HA.out _) | exact BK.drewN (BK.alloc HA.out _) _)
                replace HE : Hid (BK W7 (w.heap.size + 1) [.float .f32 0, .float .f32 0, .float .f32 0, .float .f32 0, .float .f32 0, .float .f32 0, .float .f32 0, .float .f32 0]) := Lib.hid (by rw [HW7.out]; first | exact BK.alloc HE.out _ | exact BK.alloc (BK.drew HE.out) _ | exact BK.drew (BK.alloc HE.out _) | exact BK.drewN (BK.alloc HE.out _) _)
                replace HO : Hid (OW 33 (w.heap.size + 2) W7 u9 _) := Lib.hid (by rw [HW7.out]; first | exact OW.alloc HO.out _ | exact OW.alloc (OW.drew HO.out) _ | exact OW.drew (OW.alloc HO.out _) | exact OW.drewN (OW.alloc HO.out _) _)
                replace HSB : Hid (W7.cell? ⟨b2, o2 + k, none⟩ = some (.bool sb)) := Lib.hid (by rw [HW7.out]; first | exact (World.cell?_alloc_lt _ _ _ (by (try simp only [World.heap_drewN, World.size_drew]); first | exact hbl2' | omega)).trans HSB.out | (go_simp; exact HSB.out))
                replace hb : Below w.heap.size w W7 := by rw [HW7.out]; first | exact Below.alloc hb (by omega) _ | exact Below.alloc (Below.drew hb) (by (try simp only [World.size_drew]); omega) _ | exact Below.drew (Below.alloc hb (by omega) _)
                clear HW7
                refine hK.out _ _ (by first | exact ⟨HA.out.cells, HSB.out⟩ | exact ⟨(BK.drew HA.out).cells, HSB.out⟩ | exact ⟨(BK.drewN HA.out _).cells, HSB.out⟩ | (simp; done)) (fun hH2 => ?_)
                clear hK K hH1
                (try simp only [Act.put, List.setIfInBounds_toArray, List.set_cons_zero, List.set_cons_succ])
                refine wpAnyH_ready (rs := [12]) (by kernel_rfl) (by simp) (AllReadyH.cons (o := { dst := none, op := Op.store 47 (Operand.tmp 12) (Operand.tmp 47), type := 0, pos := "l05_models.go:391", after := #[{ on := 11, ground := Ground.data }, { on := 8, ground := Ground.data }, { on := 6, ground := Ground.chain }, { on := 0, ground := Ground.phase }, { on := 1, ground := Ground.phase }, { on := 2, ground := Ground.phase }, { on := 3, ground := Ground.phase }, { on := 4, ground := Ground.phase }, { on := 5, ground := Ground.phase }, { on := 6, ground := Ground.phase }, { on := 7, ground := Ground.phase }, { on := 8, ground := Ground.phase }, { on := 9, ground := Ground.textOnly Departure.lateStores }, { on := 10, ground := Ground.textOnly Departure.lateStores }, { on := 11, ground := Ground.phase }], guard := none }) rfl (fun K hK => ?e4) AllReadyH.nil)
                rw [if_pos (by simp [Region.wanted])]
                refine wp_storeAgg60 (us := [.float .f32 r0, .float .f32 r1, .float .f32 r2, .float .f32 r3, .float .f32 r4, .float .f32 r5, .float .f32 r6, .float .f32 r7]) (storeTr2 _ _ r0 r1 r2 r3 r4 r5 r6 r7) rfl rfl (by simp [Value.oneCell']) (by first | exact HN.out | exact BK.drew HN.out | exact BK.drewN HN.out _) (by simp) ?_
                intro W8 hB8 hO8 hL8 hZ8 hG8
                replace HN := Lib.hid hB8
                simp [setsAt] at HN
                replace HA := Lib.hid (hO8 _ _ (by first | exact HA.out | exact BK.drew HA.out | exact BK.drewN HA.out _) (by omega))
                replace HE := Lib.hid (hO8 _ _ (by first | exact HE.out | exact BK.drew HE.out | exact BK.drewN HE.out _) (by omega))
                replace HO := Lib.hid (OW.kept (by first | exact HO.out | exact OW.drew HO.out | exact OW.drewN HO.out _) hG8 (by cases hv : Value.ownBlock u9 with | none => exact .inl rfl | some g => exact .inr (fun e => by injection e with e; have := HOL.out g hv; omega)))
                replace HSB := Lib.hid ((World.cell?_of_block (hG8.block b2 (by (try simp only [World.heap_drewN, World.size_drew]); omega) (fun e => by injection e with e; omega))).trans HSB.out)
                (try (replace HXB := Lib.hid ((World.cell?_of_block (hG8.block b1 (by (try simp only [World.heap_drewN, World.size_drew]); omega) (fun e => by injection e with e; omega))).trans HXB.out)))
                replace hb := hL8 _ _ (by first | exact hb | exact Below.drew hb | exact below_drewN hb _) (by omega)
                clear hB8 hO8 hL8 hG8
                refine hK.out _ _ (by first | exact ⟨HA.out.cells, HSB.out⟩ | exact ⟨(BK.drew HA.out).cells, HSB.out⟩ | exact ⟨(BK.drewN HA.out _).cells, HSB.out⟩ | (simp; done)) (fun hH3 => ?_)
                clear hK K hH2
                (try simp only [Act.put, List.setIfInBounds_toArray, List.set_cons_zero, List.set_cons_succ])
                refine wpAnyH_take (i := 13) (oi := { dst := some 13, op := Op.assign (Operand.tmp 48), type := 33, pos := "l05_models.go:391", after := #[{ on := 9, ground := Ground.data }, { on := 12, ground := Ground.chain }, { on := 0, ground := Ground.phase }, { on := 1, ground := Ground.phase }, { on := 2, ground := Ground.phase }, { on := 3, ground := Ground.phase }, { on := 4, ground := Ground.phase }, { on := 5, ground := Ground.phase }, { on := 6, ground := Ground.phase }, { on := 7, ground := Ground.phase }, { on := 8, ground := Ground.phase }, { on := 9, ground := Ground.phase }, { on := 10, ground := Ground.textOnly Departure.lateStores }, { on := 11, ground := Ground.phase }, { on := 12, ground := Ground.phase }], guard := none }) (v := ?_) rfl (by kernel_rfl) (by kernel_rfl) (by kernel_rfl) (fun _ _ _ h => h) (Or.inl ⟨by rfl, ?_⟩) hH3 ?_
                rotate_left
                · (intro w hSw; (try dsimp only at hSw); go_simp; try with_reducible rfl)
                (try simp only [Act.put, List.setIfInBounds_toArray, List.set_cons_zero, List.set_cons_succ])
                refine wpAnyH_take (i := 14) (oi := { dst := some 14, op := Op.assign (Operand.tmp 49), type := 4, pos := "l05_models.go:391", after := #[{ on := 10, ground := Ground.data }, { on := 13, ground := Ground.chain }, { on := 0, ground := Ground.phase }, { on := 1, ground := Ground.phase }, { on := 2, ground := Ground.phase }, { on := 3, ground := Ground.phase }, { on := 4, ground := Ground.phase }, { on := 5, ground := Ground.phase }, { on := 6, ground := Ground.phase }, { on := 7, ground := Ground.phase }, { on := 8, ground := Ground.phase }, { on := 9, ground := Ground.phase }, { on := 10, ground := Ground.phase }, { on := 11, ground := Ground.phase }, { on := 12, ground := Ground.phase }, { on := 13, ground := Ground.phase }], guard := none }) (v := ?_) rfl (by kernel_rfl) (by kernel_rfl) (by kernel_rfl) (fun _ _ _ h => h) (Or.inl ⟨by rfl, ?_⟩) hH3 ?_
                rotate_left
                · (intro w hSw; (try dsimp only at hSw); go_simp; try with_reducible rfl)
                (try simp only [Act.put, List.setIfInBounds_toArray, List.set_cons_zero, List.set_cons_succ])
                refine wpAnyH_done (by kernel_rfl) ?_ _
                clear hH3
                have hce := HE.out.cells
                have hfe := HE.out.fro
                have hcn := HN.out.cells
                go_wp2_with (refine wpList_storeAgg (us := [.float .f32 0, .float .f32 0, .float .f32 0, .float .f32 0, .float .f32 0, .float .f32 0, .float .f32 0, .float .f32 0]) (storeTr2 _ _ 0 0 0 0 0 0 0 0) rfl rfl (by simp [Value.oneCell']) (by first | exact HE.out | exact BK.drew HE.out | exact BK.drewN HE.out _) (by simp) ?_; intro W5 hB hO hL hZ hG; have HE5 := Lib.hid hB; have hbw5 := hL _ _ (by first | exact hb | exact Below.drew hb | exact below_drewN hb _) (by omega); clear hB hO hL hG hce hfe; simp [setsAt] at HE5; have hce := HE5.out.cells)
                (try simp only [Exit.inBlock, Exit.then])
                refine bodyPost_ret (by simp [results, Try.results25, go_sem, hce]; try rfl) rfl ⟨TRE.no _ _ _ (HQN.out (trAt_stays (k := k + 1) (by show (_ && _) = false; rw [HST.out, HK.out, Bool.and_false]) hlt)), hbw5⟩
              case e2 =>
                go_simp
                refine k_world fun W7 hW7 => ?_
                have HW7 := Lib.hid hW7
                clear hW7
                have HN : Hid (BK W7 _ [.float .f32 0, .float .f32 0, .float .f32 0, .float .f32 0, .float .f32 0, .float .f32 0, .float .f32 0, .float .f32 0]) := Lib.hid (by rw [HW7.out]; first | exact BK.newAt2 _ _ _ rfl | exact BK.drew (BK.newAt2 _ _ _ rfl) | exact BK.drewN (BK.newAt2 _ _ _ rfl) _)
                have hzn := HN.out.lt
                replace HA : Hid (BK W7 w.heap.size [.float .f32 q0, .float .f32 q1, .float .f32 q2, .float .f32 q3, .float .f32 q4, .float .f32 q5, .float .f32 q6, .float .f32 q7]) := Lib.hid (by rw [HW7.out]; first | exact BK.alloc HA.out _ | exact BK.alloc (BK.drew HA.out) _ | exact BK.drew (BK.alloc HA.out _) | exact BK.drewN (BK.alloc HA.out _) _)
                replace HE : Hid (BK W7 (w.heap.size + 1) [.float .f32 0, .float .f32 0, .float .f32 0, .float .f32 0, .float .f32 0, .float .f32 0, .float .f32 0, .float .f32 0]) := Lib.hid (by rw [HW7.out]; first | exact BK.alloc HE.out _ | exact BK.alloc (BK.drew HE.out) _ | exact BK.drew (BK.alloc HE.out _) | exact BK.drewN (BK.alloc HE.out _) _)
                replace HO : Hid (OW 33 (w.heap.size + 2) W7 u9 _) := Lib.hid (by rw [HW7.out]; first | exact OW.alloc HO.out _ | exact OW.alloc (OW.drew HO.out) _ | exact OW.drew (OW.alloc HO.out _) | exact OW.drewN (OW.alloc HO.out _) _)
                replace HSB : Hid (W7.cell? ⟨b2, o2 + k, none⟩ = some (.bool sb)) := Lib.hid (by rw [HW7.out]; first | exact (World.cell?_alloc_lt _ _ _ (by (try simp only [World.heap_drewN, World.size_drew]); first | exact hbl2' | omega)).trans HSB.out | (go_simp; exact HSB.out))
                replace hb : Below w.heap.size w W7 := by rw [HW7.out]; first | exact Below.alloc hb (by omega) _ | exact Below.alloc (Below.drew hb) (by (try simp only [World.size_drew]); omega) _ | exact Below.drew (Below.alloc hb (by omega) _)
                clear HW7
                refine hK.out _ _ (by first | exact ⟨HA.out.cells, HSB.out⟩ | exact ⟨(BK.drew HA.out).cells, HSB.out⟩ | exact ⟨(BK.drewN HA.out _).cells, HSB.out⟩ | (simp; done)) (fun hH4 => ?_)
                clear hK K hH0
                (try simp only [Act.put, List.setIfInBounds_toArray, List.set_cons_zero, List.set_cons_succ])
                refine wpAnyH_ready (rs := [6]) (by kernel_rfl) (by simp) (AllReadyH.cons (o := { dst := some 46, op := Op.call { callee := Callee.value (Operand.func 30), args := #[Operand.tmp 40, Operand.tmp 41, Operand.tmp 45], argTypes := #[47, 33, 4] }, type := 56, pos := "l05_models.go:391", after := #[{ on := 0, ground := Ground.data }, { on := 1, ground := Ground.data }, { on := 5, ground := Ground.data }], guard := none }) rfl (fun K hK => ?e5) AllReadyH.nil)
                go_simp
                go_at_call 30
                refine (i_TrendStep q0 q1 q2 q3 q4 q5 q6 q7 x hq0 hq1 hq2 hq3 hq4 hq5 hq6 hq7 hx sb _).mono ?_
                rintro z w4 ⟨hte, hb4⟩
                obtain ⟨r0, r1, r2, r3, r4, r5, r6, r7, rE, ok, rfl, hbds, hq⟩ := hte
                have hok2 : ok = _ := (congrArg (fun p => p.2.2) hq).symm.trans HK.out
                subst hok2
                have HQ4 := Lib.hid hq
                clear hq
                have hyy := hb4.size
                (try simp only [World.heap_drewN, World.size_drew] at hyy)
                replace HA := Lib.hid (BK.keep (by first | exact HA.out | exact BK.drew HA.out | exact BK.drewN HA.out _) hb4)
                replace HE := Lib.hid (BK.keep (by first | exact HE.out | exact BK.drew HE.out | exact BK.drewN HE.out _) hb4)
                replace HO := Lib.hid (OW.keep (by first | exact HO.out | exact OW.drew HO.out | exact OW.drewN HO.out _) hb4)
                replace HSB := Lib.hid ((hb4.cell (p := ⟨b2, o2 + k, none⟩) (by (try simp only [World.heap_drewN, World.size_drew]); omega)).trans HSB.out)
                (try (replace HXB := Lib.hid ((hb4.cell (p := ⟨b1, o1 + k, none⟩) (by (try simp only [World.heap_drewN, World.size_drew]); omega)).trans HXB.out)))
                (try (replace HN := Lib.hid (BK.keep (by first | exact HN.out | exact BK.drew HN.out | exact BK.drewN HN.out _) hb4)))
                replace hb := Below.trans (by first | exact hb | exact Below.drew hb | exact below_drewN hb _) (hb4.mono (by (try simp only [World.heap_drewN, World.size_drew]); omega))
                clear hb4
                refine hK.out _ _ (by first | exact ⟨HA.out.cells, HSB.out⟩ | exact ⟨(BK.drew HA.out).cells, HSB.out⟩ | exact ⟨(BK.drewN HA.out _).cells, HSB.out⟩ | (simp; done)) (fun hH5 => ?_)
                clear hK K hH4
                (try simp only [Act.put, List.setIfInBounds_toArray, List.set_cons_zero, List.set_cons_succ])
                refine wpAnyH_take (i := 7) (oi := { dst := some 39, op := Op.move (Operand.tmp 46), type := 56, pos := "l05_models.go:391", after := #[{ on := 6, ground := Ground.data }], guard := none }) (v := ?_) rfl (by kernel_rfl) (by kernel_rfl) (by kernel_rfl) (fun _ _ _ h => h) (Or.inl ⟨by rfl, ?_⟩) hH5 ?_
                rotate_left
                · (intro w hSw; (try dsimp only at hSw); go_simp; try with_reducible rfl)
                (try simp only [Act.put, List.setIfInBounds_toArray, List.set_cons_zero, List.set_cons_succ])
                refine wpAnyH_take (i := 8) (oi := { dst := some 47, op := Op.extract (Operand.tmp 39) 0, type := 47, pos := "l05_models.go:391", after := #[{ on := 7, ground := Ground.data }], guard := none }) (v := ?_) rfl (by kernel_rfl) (by kernel_rfl) (by kernel_rfl) (fun _ _ _ h => h) (Or.inl ⟨by rfl, ?_⟩) hH5 ?_
                rotate_left
                · (intro w hSw; (try dsimp only at hSw); go_simp; try with_reducible rfl)
                (try simp only [Act.put, List.setIfInBounds_toArray, List.set_cons_zero, List.set_cons_succ])
                refine wpAnyH_take (i := 9) (oi := { dst := some 48, op := Op.extract (Operand.tmp 39) 1, type := 33, pos := "l05_models.go:391", after := #[{ on := 7, ground := Ground.data }, { on := 12, ground := Ground.gcOnly Departure.lateStores }], guard := none }) (v := ?_) rfl (by kernel_rfl) (by kernel_rfl) (by kernel_rfl) (fun _ _ _ h => h) (Or.inl ⟨by rfl, ?_⟩) hH5 ?_
                rotate_left
                · (intro w hSw; (try dsimp only at hSw); go_simp; try with_reducible rfl)
                (try simp only [Act.put, List.setIfInBounds_toArray, List.set_cons_zero, List.set_cons_succ])
                refine wpAnyH_take (i := 10) (oi := { dst := some 49, op := Op.extract (Operand.tmp 39) 2, type := 4, pos := "l05_models.go:391", after := #[{ on := 7, ground := Ground.data }, { on := 13, ground := Ground.gcOnly Departure.lateStores }], guard := none }) (v := ?_) rfl (by kernel_rfl) (by kernel_rfl) (by kernel_rfl) (fun _ _ _ h => h) (Or.inl ⟨by rfl, ?_⟩) hH5 ?_
                rotate_left
                · (intro w hSw; (try dsimp only at hSw); go_simp; try with_reducible rfl)
                (try simp only [Act.put, List.setIfInBounds_toArray, List.set_cons_zero, List.set_cons_succ])
                refine wpAnyH_ready (rs := [12]) (by kernel_rfl) (by simp) (AllReadyH.cons (o := { dst := none, op := Op.store 47 (Operand.tmp 12) (Operand.tmp 47), type := 0, pos := "l05_models.go:391", after := #[{ on := 11, ground := Ground.data }, { on := 8, ground := Ground.data }, { on := 6, ground := Ground.chain }, { on := 0, ground := Ground.phase }, { on := 1, ground := Ground.phase }, { on := 2, ground := Ground.phase }, { on := 3, ground := Ground.phase }, { on := 4, ground := Ground.phase }, { on := 5, ground := Ground.phase }, { on := 6, ground := Ground.phase }, { on := 7, ground := Ground.phase }, { on := 8, ground := Ground.phase }, { on := 9, ground := Ground.textOnly Departure.lateStores }, { on := 10, ground := Ground.textOnly Departure.lateStores }, { on := 11, ground := Ground.phase }], guard := none }) rfl (fun K hK => ?e6) AllReadyH.nil)
                rw [if_pos (by simp [Region.wanted])]
                refine wp_storeAgg60 (us := [.float .f32 r0, .float .f32 r1, .float .f32 r2, .float .f32 r3, .float .f32 r4, .float .f32 r5, .float .f32 r6, .float .f32 r7]) (storeTr2 _ _ r0 r1 r2 r3 r4 r5 r6 r7) rfl rfl (by simp [Value.oneCell']) (by first | exact HN.out | exact BK.drew HN.out | exact BK.drewN HN.out _) (by simp) ?_
                intro W8 hB8 hO8 hL8 hZ8 hG8
                replace HN := Lib.hid hB8
                simp [setsAt] at HN
                replace HA := Lib.hid (hO8 _ _ (by first | exact HA.out | exact BK.drew HA.out | exact BK.drewN HA.out _) (by omega))
                replace HE := Lib.hid (hO8 _ _ (by first | exact HE.out | exact BK.drew HE.out | exact BK.drewN HE.out _) (by omega))
                replace HO := Lib.hid (OW.kept (by first | exact HO.out | exact OW.drew HO.out | exact OW.drewN HO.out _) hG8 (by cases hv : Value.ownBlock u9 with | none => exact .inl rfl | some g => exact .inr (fun e => by injection e with e; have := HOL.out g hv; omega)))
                replace HSB := Lib.hid ((World.cell?_of_block (hG8.block b2 (by (try simp only [World.heap_drewN, World.size_drew]); omega) (fun e => by injection e with e; omega))).trans HSB.out)
                (try (replace HXB := Lib.hid ((World.cell?_of_block (hG8.block b1 (by (try simp only [World.heap_drewN, World.size_drew]); omega) (fun e => by injection e with e; omega))).trans HXB.out)))
                replace hb := hL8 _ _ (by first | exact hb | exact Below.drew hb | exact below_drewN hb _) (by omega)
                clear hB8 hO8 hL8 hG8
                refine hK.out _ _ (by first | exact ⟨HA.out.cells, HSB.out⟩ | exact ⟨(BK.drew HA.out).cells, HSB.out⟩ | exact ⟨(BK.drewN HA.out _).cells, HSB.out⟩ | (simp; done)) (fun hH6 => ?_)
                clear hK K hH5
                (try simp only [Act.put, List.setIfInBounds_toArray, List.set_cons_zero, List.set_cons_succ])
                refine wpAnyH_take (i := 13) (oi := { dst := some 13, op := Op.assign (Operand.tmp 48), type := 33, pos := "l05_models.go:391", after := #[{ on := 9, ground := Ground.data }, { on := 12, ground := Ground.chain }, { on := 0, ground := Ground.phase }, { on := 1, ground := Ground.phase }, { on := 2, ground := Ground.phase }, { on := 3, ground := Ground.phase }, { on := 4, ground := Ground.phase }, { on := 5, ground := Ground.phase }, { on := 6, ground := Ground.phase }, { on := 7, ground := Ground.phase }, { on := 8, ground := Ground.phase }, { on := 9, ground := Ground.phase }, { on := 10, ground := Ground.textOnly Departure.lateStores }, { on := 11, ground := Ground.phase }, { on := 12, ground := Ground.phase }], guard := none }) (v := ?_) rfl (by kernel_rfl) (by kernel_rfl) (by kernel_rfl) (fun _ _ _ h => h) (Or.inl ⟨by rfl, ?_⟩) hH6 ?_
                rotate_left
                · (intro w hSw; (try dsimp only at hSw); go_simp; try with_reducible rfl)
                (try simp only [Act.put, List.setIfInBounds_toArray, List.set_cons_zero, List.set_cons_succ])
                refine wpAnyH_take (i := 14) (oi := { dst := some 14, op := Op.assign (Operand.tmp 49), type := 4, pos := "l05_models.go:391", after := #[{ on := 10, ground := Ground.data }, { on := 13, ground := Ground.chain }, { on := 0, ground := Ground.phase }, { on := 1, ground := Ground.phase }, { on := 2, ground := Ground.phase }, { on := 3, ground := Ground.phase }, { on := 4, ground := Ground.phase }, { on := 5, ground := Ground.phase }, { on := 6, ground := Ground.phase }, { on := 7, ground := Ground.phase }, { on := 8, ground := Ground.phase }, { on := 9, ground := Ground.phase }, { on := 10, ground := Ground.phase }, { on := 11, ground := Ground.phase }, { on := 12, ground := Ground.phase }, { on := 13, ground := Ground.phase }], guard := none }) (v := ?_) rfl (by kernel_rfl) (by kernel_rfl) (by kernel_rfl) (fun _ _ _ h => h) (Or.inl ⟨by rfl, ?_⟩) hH6 ?_
                rotate_left
                · (intro w hSw; (try dsimp only at hSw); go_simp; try with_reducible rfl)
                (try simp only [Act.put, List.setIfInBounds_toArray, List.set_cons_zero, List.set_cons_succ])
                refine wpAnyH_done (by kernel_rfl) ?_ _
                clear hH6
                have hce := HE.out.cells
                have hfe := HE.out.fro
                have hcn := HN.out.cells
                go_wp2_with (refine wpList_storeAgg (us := [.float .f32 0, .float .f32 0, .float .f32 0, .float .f32 0, .float .f32 0, .float .f32 0, .float .f32 0, .float .f32 0]) (storeTr2 _ _ 0 0 0 0 0 0 0 0) rfl rfl (by simp [Value.oneCell']) (by first | exact HE.out | exact BK.drew HE.out | exact BK.drewN HE.out _) (by simp) ?_; intro W5 hB hO hL hZ hG; have HE5 := Lib.hid hB; have hbw5 := hL _ _ (by first | exact hb | exact Below.drew hb | exact below_drewN hb _) (by omega); clear hB hO hL hG hce hfe; simp [setsAt] at HE5; have hce := HE5.out.cells)
                (try simp only [Exit.inBlock, Exit.then])
                refine bodyPost_ret (by simp [results, Try.results25, go_sem, hce]; try rfl) rfl ⟨TRE.no _ _ _ (HQN.out (trAt_stays (k := k + 1) (by show (_ && _) = false; rw [HST.out, HK.out, Bool.and_false]) hlt)), hbw5⟩
            case true =>
              have HK := Lib.hid hok
              clear hok
              have HSB := Lib.hid hc2'
              have HOL := Lib.hid (fun g hg => (HO.out.block g hg).2)
              go_wp2_with fail
              clear hca hce hfe
              refine wp_region_held_drew (S := (fun W => (∀ i, i < 8 → W.cell? ⟨w.heap.size, i, none⟩ = ([.float .f32 q0, .float .f32 q1, .float .f32 q2, .float .f32 q3, .float .f32 q4, .float .f32 q5, .float .f32 q6, .float .f32 q7] : List Value)[i]?) ∧ W.cell? ⟨b2, o2 + k, none⟩ = some (.bool sb))) (by kernel_rfl) (by first | exact ⟨HA.out.cells, HSB.out⟩ | exact ⟨(BK.drew HA.out).cells, HSB.out⟩ | exact ⟨(BK.drewN HA.out _).cells, HSB.out⟩ | (simp; done)) (fun hH0 => ?_)
              refine wpAnyH_take (i := 0) (oi := { dst := some 40, op := Op.load 47 (Operand.tmp 3), type := 47, pos := "l05_models.go:391", after := #[], guard := none }) (v := ?_) rfl (by kernel_rfl) (by kernel_rfl) (by kernel_rfl) (fun _ _ _ h => h) (Or.inl ⟨by rfl, ?_⟩) hH0 ?_
              rotate_left
              · (intro w hSw; (try dsimp only at hSw); go_simp; try with_reducible rfl)
              (try simp only [Act.put, List.setIfInBounds_toArray, List.set_cons_zero, List.set_cons_succ])
              refine wpAnyH_take (i := 1) (oi := { dst := some 41, op := Op.move (Operand.tmp 11), type := 33, pos := "l05_models.go:391", after := #[], guard := none }) (v := ?_) rfl (by kernel_rfl) (by kernel_rfl) (by kernel_rfl) (fun _ _ _ h => h) (Or.inl ⟨by rfl, ?_⟩) hH0 ?_
              rotate_left
              · (intro w hSw; (try dsimp only at hSw); go_simp; try with_reducible rfl)
              (try simp only [Act.put, List.setIfInBounds_toArray, List.set_cons_zero, List.set_cons_succ])
              refine wpAnyH_take (i := 2) (oi := { dst := some 42, op := Op.move (Operand.tmp 2), type := 50, pos := "l05_models.go:391", after := #[], guard := none }) (v := ?_) rfl (by kernel_rfl) (by kernel_rfl) (by kernel_rfl) (fun _ _ _ h => h) (Or.inl ⟨by rfl, ?_⟩) hH0 ?_
              rotate_left
              · (intro w hSw; (try dsimp only at hSw); go_simp; try with_reducible rfl)
              (try simp only [Act.put, List.setIfInBounds_toArray, List.set_cons_zero, List.set_cons_succ])
              refine wpAnyH_take (i := 3) (oi := { dst := some 43, op := Op.move (Operand.tmp 10), type := 3, pos := "l05_models.go:391", after := #[], guard := none }) (v := ?_) rfl (by kernel_rfl) (by kernel_rfl) (by kernel_rfl) (fun _ _ _ h => h) (Or.inl ⟨by rfl, ?_⟩) hH0 ?_
              rotate_left
              · (intro w hSw; (try dsimp only at hSw); go_simp; try with_reducible rfl)
              (try simp only [Act.put, List.setIfInBounds_toArray, List.set_cons_zero, List.set_cons_succ])
              refine wpAnyH_take (i := 4) (oi := { dst := some 44, op := Op.indexAddr 50 (Operand.tmp 42) (Operand.tmp 43), type := 0, pos := "l05_models.go:391", after := #[{ on := 2, ground := Ground.data }, { on := 3, ground := Ground.data }], guard := none }) (v := ?_) rfl (by kernel_rfl) (by kernel_rfl) (by kernel_rfl) (fun _ _ _ h => h) (Or.inl ⟨by rfl, ?_⟩) hH0 ?_
              rotate_left
              · (intro w hSw; (try dsimp only at hSw); go_simp; try with_reducible rfl)
              (try simp only [Act.put, List.setIfInBounds_toArray, List.set_cons_zero, List.set_cons_succ])
              refine wpAnyH_take (i := 5) (oi := { dst := some 45, op := Op.load 4 (Operand.tmp 44), type := 4, pos := "l05_models.go:391", after := #[{ on := 4, ground := Ground.data }], guard := none }) (v := ?_) rfl (by kernel_rfl) (by kernel_rfl) (by kernel_rfl) (fun _ _ _ h => h) (Or.inl ⟨by rfl, ?_⟩) hH0 ?_
              rotate_left
              · (intro w hSw; (try dsimp only at hSw); go_simp; try with_reducible rfl)
              (try simp only [Act.put, List.setIfInBounds_toArray, List.set_cons_zero, List.set_cons_succ])
              refine wpAnyH_ready (rs := [6, 11]) (by kernel_rfl) (by simp) (AllReadyH.cons (o := { dst := some 46, op := Op.call { callee := Callee.value (Operand.func 30), args := #[Operand.tmp 40, Operand.tmp 41, Operand.tmp 45], argTypes := #[47, 33, 4] }, type := 56, pos := "l05_models.go:391", after := #[{ on := 0, ground := Ground.data }, { on := 1, ground := Ground.data }, { on := 5, ground := Ground.data }], guard := none }) rfl (fun K hK => ?e7) (AllReadyH.cons (o := { dst := some 12, op := Op.alloc 47, type := 0, pos := "l05_models.go:391", after := #[], guard := none }) rfl (fun K hK => ?e8) AllReadyH.nil))
              case e7 =>
                go_simp
                go_at_call 30
                refine (i_TrendStep q0 q1 q2 q3 q4 q5 q6 q7 x hq0 hq1 hq2 hq3 hq4 hq5 hq6 hq7 hx sb _).mono ?_
                rintro z w4 ⟨hte, hb4⟩
                obtain ⟨r0, r1, r2, r3, r4, r5, r6, r7, rE, ok, rfl, hbds, hq⟩ := hte
                have hok2 : ok = _ := (congrArg (fun p => p.2.2) hq).symm.trans HK.out
                subst hok2
                have HQ4 := Lib.hid hq
                clear hq
                have hyy := hb4.size
                (try simp only [World.heap_drewN, World.size_drew] at hyy)
                replace HA := Lib.hid (BK.keep (by first | exact HA.out | exact BK.drew HA.out | exact BK.drewN HA.out _) hb4)
                replace HE := Lib.hid (BK.keep (by first | exact HE.out | exact BK.drew HE.out | exact BK.drewN HE.out _) hb4)
                replace HO := Lib.hid (OW.keep (by first | exact HO.out | exact OW.drew HO.out | exact OW.drewN HO.out _) hb4)
                replace HSB := Lib.hid ((hb4.cell (p := ⟨b2, o2 + k, none⟩) (by (try simp only [World.heap_drewN, World.size_drew]); omega)).trans HSB.out)
                (try (replace HXB := Lib.hid ((hb4.cell (p := ⟨b1, o1 + k, none⟩) (by (try simp only [World.heap_drewN, World.size_drew]); omega)).trans HXB.out)))
                (try (replace HN := Lib.hid (BK.keep (by first | exact HN.out | exact BK.drew HN.out | exact BK.drewN HN.out _) hb4)))
                replace hb := Below.trans (by first | exact hb | exact Below.drew hb | exact below_drewN hb _) (hb4.mono (by (try simp only [World.heap_drewN, World.size_drew]); omega))
                clear hb4
                refine hK.out _ _ (by first | exact ⟨HA.out.cells, HSB.out⟩ | exact ⟨(BK.drew HA.out).cells, HSB.out⟩ | exact ⟨(BK.drewN HA.out _).cells, HSB.out⟩ | (simp; done)) (fun hH1 => ?_)
                clear hK K hH0
                (try simp only [Act.put, List.setIfInBounds_toArray, List.set_cons_zero, List.set_cons_succ])
                refine wpAnyH_take (i := 7) (oi := { dst := some 39, op := Op.move (Operand.tmp 46), type := 56, pos := "l05_models.go:391", after := #[{ on := 6, ground := Ground.data }], guard := none }) (v := ?_) rfl (by kernel_rfl) (by kernel_rfl) (by kernel_rfl) (fun _ _ _ h => h) (Or.inl ⟨by rfl, ?_⟩) hH1 ?_
                rotate_left
                · (intro w hSw; (try dsimp only at hSw); go_simp; try with_reducible rfl)
                (try simp only [Act.put, List.setIfInBounds_toArray, List.set_cons_zero, List.set_cons_succ])
                refine wpAnyH_take (i := 8) (oi := { dst := some 47, op := Op.extract (Operand.tmp 39) 0, type := 47, pos := "l05_models.go:391", after := #[{ on := 7, ground := Ground.data }], guard := none }) (v := ?_) rfl (by kernel_rfl) (by kernel_rfl) (by kernel_rfl) (fun _ _ _ h => h) (Or.inl ⟨by rfl, ?_⟩) hH1 ?_
                rotate_left
                · (intro w hSw; (try dsimp only at hSw); go_simp; try with_reducible rfl)
                (try simp only [Act.put, List.setIfInBounds_toArray, List.set_cons_zero, List.set_cons_succ])
                refine wpAnyH_take (i := 9) (oi := { dst := some 48, op := Op.extract (Operand.tmp 39) 1, type := 33, pos := "l05_models.go:391", after := #[{ on := 7, ground := Ground.data }, { on := 12, ground := Ground.gcOnly Departure.lateStores }], guard := none }) (v := ?_) rfl (by kernel_rfl) (by kernel_rfl) (by kernel_rfl) (fun _ _ _ h => h) (Or.inl ⟨by rfl, ?_⟩) hH1 ?_
                rotate_left
                · (intro w hSw; (try dsimp only at hSw); go_simp; try with_reducible rfl)
                (try simp only [Act.put, List.setIfInBounds_toArray, List.set_cons_zero, List.set_cons_succ])
                refine wpAnyH_take (i := 10) (oi := { dst := some 49, op := Op.extract (Operand.tmp 39) 2, type := 4, pos := "l05_models.go:391", after := #[{ on := 7, ground := Ground.data }, { on := 13, ground := Ground.gcOnly Departure.lateStores }], guard := none }) (v := ?_) rfl (by kernel_rfl) (by kernel_rfl) (by kernel_rfl) (fun _ _ _ h => h) (Or.inl ⟨by rfl, ?_⟩) hH1 ?_
                rotate_left
                · (intro w hSw; (try dsimp only at hSw); go_simp; try with_reducible rfl)
                (try simp only [Act.put, List.setIfInBounds_toArray, List.set_cons_zero, List.set_cons_succ])
                refine wpAnyH_ready (rs := [11]) (by kernel_rfl) (by simp) (AllReadyH.cons (o := { dst := some 12, op := Op.alloc 47, type := 0, pos := "l05_models.go:391", after := #[], guard := none }) rfl (fun K hK => ?e9) AllReadyH.nil)
                go_simp
                refine k_world fun W7 hW7 => ?_
                have HW7 := Lib.hid hW7
                clear hW7
                have HN : Hid (BK W7 _ [.float .f32 0, .float .f32 0, .float .f32 0, .float .f32 0, .float .f32 0, .float .f32 0, .float .f32 0, .float .f32 0]) := Lib.hid (by rw [HW7.out]; first | exact BK.newAt2 _ _ _ rfl | exact BK.drew (BK.newAt2 _ _ _ rfl) | exact BK.drewN (BK.newAt2 _ _ _ rfl) _)
                have hzn := HN.out.lt
                replace HA : Hid (BK W7 w.heap.size [.float .f32 q0, .float .f32 q1, .float .f32 q2, .float .f32 q3, .float .f32 q4, .float .f32 q5, .float .f32 q6, .float .f32 q7]) := Lib.hid (by rw [HW7.out]; first | exact BK.alloc HA.out _ | exact BK.alloc (BK.drew HA.out) _ | exact BK.drew (BK.alloc HA.out _) | exact BK.drewN (BK.alloc HA.out _) _)
                replace HE : Hid (BK W7 (w.heap.size + 1) [.float .f32 0, .float .f32 0, .float .f32 0, .float .f32 0, .float .f32 0, .float .f32 0, .float .f32 0, .float .f32 0]) := Lib.hid (by rw [HW7.out]; first | exact BK.alloc HE.out _ | exact BK.alloc (BK.drew HE.out) _ | exact BK.drew (BK.alloc HE.out _) | exact BK.drewN (BK.alloc HE.out _) _)
                replace HO : Hid (OW 33 (w.heap.size + 2) W7 u9 _) := Lib.hid (by rw [HW7.out]; first | exact OW.alloc HO.out _ | exact OW.alloc (OW.drew HO.out) _ | exact OW.drew (OW.alloc HO.out _) | exact OW.drewN (OW.alloc HO.out _) _)
                replace HSB : Hid (W7.cell? ⟨b2, o2 + k, none⟩ = some (.bool sb)) := Lib.hid (by rw [HW7.out]; first | exact (World.cell?_alloc_lt _ _ _ (by (try simp only [World.heap_drewN, World.size_drew]); first | exact hbl2' | omega)).trans HSB.out | (go_simp; exact HSB.out))
                replace hb : Below w.heap.size w W7 := by rw [HW7.out]; first | exact Below.alloc hb (by omega) _ | exact Below.alloc (Below.drew hb) (by (try simp only [World.size_drew]); omega) _ | exact Below.drew (Below.alloc hb (by omega) _)
                clear HW7
                refine hK.out _ _ (by first | exact ⟨HA.out.cells, HSB.out⟩ | exact ⟨(BK.drew HA.out).cells, HSB.out⟩ | exact ⟨(BK.drewN HA.out _).cells, HSB.out⟩ | (simp; done)) (fun hH2 => ?_)
                clear hK K hH1
                (try simp only [Act.put, List.setIfInBounds_toArray, List.set_cons_zero, List.set_cons_succ])
                refine wpAnyH_ready (rs := [12]) (by kernel_rfl) (by simp) (AllReadyH.cons (o := { dst := none, op := Op.store 47 (Operand.tmp 12) (Operand.tmp 47), type := 0, pos := "l05_models.go:391", after := #[{ on := 11, ground := Ground.data }, { on := 8, ground := Ground.data }, { on := 6, ground := Ground.chain }, { on := 0, ground := Ground.phase }, { on := 1, ground := Ground.phase }, { on := 2, ground := Ground.phase }, { on := 3, ground := Ground.phase }, { on := 4, ground := Ground.phase }, { on := 5, ground := Ground.phase }, { on := 6, ground := Ground.phase }, { on := 7, ground := Ground.phase }, { on := 8, ground := Ground.phase }, { on := 9, ground := Ground.textOnly Departure.lateStores }, { on := 10, ground := Ground.textOnly Departure.lateStores }, { on := 11, ground := Ground.phase }], guard := none }) rfl (fun K hK => ?e10) AllReadyH.nil)
                rw [if_pos (by simp [Region.wanted])]
                refine wp_storeAgg60 (us := [.float .f32 r0, .float .f32 r1, .float .f32 r2, .float .f32 r3, .float .f32 r4, .float .f32 r5, .float .f32 r6, .float .f32 r7]) (storeTr2 _ _ r0 r1 r2 r3 r4 r5 r6 r7) rfl rfl (by simp [Value.oneCell']) (by first | exact HN.out | exact BK.drew HN.out | exact BK.drewN HN.out _) (by simp) ?_
                intro W8 hB8 hO8 hL8 hZ8 hG8
                replace HN := Lib.hid hB8
                simp [setsAt] at HN
                replace HA := Lib.hid (hO8 _ _ (by first | exact HA.out | exact BK.drew HA.out | exact BK.drewN HA.out _) (by omega))
                replace HE := Lib.hid (hO8 _ _ (by first | exact HE.out | exact BK.drew HE.out | exact BK.drewN HE.out _) (by omega))
                replace HO := Lib.hid (OW.kept (by first | exact HO.out | exact OW.drew HO.out | exact OW.drewN HO.out _) hG8 (by cases hv : Value.ownBlock u9 with | none => exact .inl rfl | some g => exact .inr (fun e => by injection e with e; have := HOL.out g hv; omega)))
                replace HSB := Lib.hid ((World.cell?_of_block (hG8.block b2 (by (try simp only [World.heap_drewN, World.size_drew]); omega) (fun e => by injection e with e; omega))).trans HSB.out)
                (try (replace HXB := Lib.hid ((World.cell?_of_block (hG8.block b1 (by (try simp only [World.heap_drewN, World.size_drew]); omega) (fun e => by injection e with e; omega))).trans HXB.out)))
                replace hb := hL8 _ _ (by first | exact hb | exact Below.drew hb | exact below_drewN hb _) (by omega)
                clear hB8 hO8 hL8 hG8
                refine hK.out _ _ (by first | exact ⟨HA.out.cells, HSB.out⟩ | exact ⟨(BK.drew HA.out).cells, HSB.out⟩ | exact ⟨(BK.drewN HA.out _).cells, HSB.out⟩ | (simp; done)) (fun hH3 => ?_)
                clear hK K hH2
                (try simp only [Act.put, List.setIfInBounds_toArray, List.set_cons_zero, List.set_cons_succ])
                refine wpAnyH_take (i := 13) (oi := { dst := some 13, op := Op.assign (Operand.tmp 48), type := 33, pos := "l05_models.go:391", after := #[{ on := 9, ground := Ground.data }, { on := 12, ground := Ground.chain }, { on := 0, ground := Ground.phase }, { on := 1, ground := Ground.phase }, { on := 2, ground := Ground.phase }, { on := 3, ground := Ground.phase }, { on := 4, ground := Ground.phase }, { on := 5, ground := Ground.phase }, { on := 6, ground := Ground.phase }, { on := 7, ground := Ground.phase }, { on := 8, ground := Ground.phase }, { on := 9, ground := Ground.phase }, { on := 10, ground := Ground.textOnly Departure.lateStores }, { on := 11, ground := Ground.phase }, { on := 12, ground := Ground.phase }], guard := none }) (v := ?_) rfl (by kernel_rfl) (by kernel_rfl) (by kernel_rfl) (fun _ _ _ h => h) (Or.inl ⟨by rfl, ?_⟩) hH3 ?_
                rotate_left
                · (intro w hSw; (try dsimp only at hSw); go_simp; try with_reducible rfl)
                (try simp only [Act.put, List.setIfInBounds_toArray, List.set_cons_zero, List.set_cons_succ])
                refine wpAnyH_take (i := 14) (oi := { dst := some 14, op := Op.assign (Operand.tmp 49), type := 4, pos := "l05_models.go:391", after := #[{ on := 10, ground := Ground.data }, { on := 13, ground := Ground.chain }, { on := 0, ground := Ground.phase }, { on := 1, ground := Ground.phase }, { on := 2, ground := Ground.phase }, { on := 3, ground := Ground.phase }, { on := 4, ground := Ground.phase }, { on := 5, ground := Ground.phase }, { on := 6, ground := Ground.phase }, { on := 7, ground := Ground.phase }, { on := 8, ground := Ground.phase }, { on := 9, ground := Ground.phase }, { on := 10, ground := Ground.phase }, { on := 11, ground := Ground.phase }, { on := 12, ground := Ground.phase }, { on := 13, ground := Ground.phase }], guard := none }) (v := ?_) rfl (by kernel_rfl) (by kernel_rfl) (by kernel_rfl) (fun _ _ _ h => h) (Or.inl ⟨by rfl, ?_⟩) hH3 ?_
                rotate_left
                · (intro w hSw; (try dsimp only at hSw); go_simp; try with_reducible rfl)
                (try simp only [Act.put, List.setIfInBounds_toArray, List.set_cons_zero, List.set_cons_succ])
                refine wpAnyH_done (by kernel_rfl) ?_ _
                clear hH3
                have hcn := HN.out.cells
                have HLN := Lib.hid (show (trAt TT xs ss k).2.1.length < 1099511627776 by rw [trAt_length]; omega)
                go_wp2_with (first | (at_builtin; refine wpList_app1 f32sR (w.heap.size + 2) u9 _ rfl (by first | exact OW.drewN (OW.alloc HO5.out _) _ | exact OW.alloc HO5.out _) _ _ rfl (by simp; rfl) (by exact hbds.2.2.2.2.2.2.2.2) HLN.out (by have := HE5.out.lt; simp; omega) ?_; intro v6 w6 ho6 hg6; have HO6 := Lib.hid ho6; have HG6 := Lib.hid hg6; clear ho6 hg6) | (refine wpList_storeAgg (us := [.float .f32 r0, .float .f32 r1, .float .f32 r2, .float .f32 r3, .float .f32 r4, .float .f32 r5, .float .f32 r6, .float .f32 r7]) (storeTr2 _ _ r0 r1 r2 r3 r4 r5 r6 r7) rfl rfl (by simp [Value.oneCell']) (by first | exact HA.out | exact BK.drew HA.out | exact BK.drewN HA.out _) (by simp) ?_; intro W5 hB hO hL hZ hG; have HA5 := Lib.hid hB; have HE5 := Lib.hid (hO _ _ (by first | exact HE.out | exact BK.drew HE.out | exact BK.drewN HE.out _) (by omega)); have HO5 := Lib.hid (OW.kept (by first | exact HO.out | exact OW.drew HO.out | exact OW.drewN HO.out _) hG (by cases hv : Value.ownBlock u9 with | none => exact .inl rfl | some g => exact .inr (fun e => by injection e with e; have := HO.out.own_ge g hv; omega))); have hb5 := hL _ _ (by first | exact hb | exact Below.drew hb | exact below_drewN hb _) (Nat.le_refl _); have hz5 := hb5.size; clear hB hO hL hG hcn; simp [setsAt] at HA5))
                refine ⟨⟨k + 1, by omega, by go_num, ⟨r0, r1, r2, r3, r4, r5, r6, r7, ⟨hbds.1, hbds.2.1, hbds.2.2.1, hbds.2.2.2.1, hbds.2.2.2.2.1, hbds.2.2.2.2.2.1, hbds.2.2.2.2.2.2.1, hbds.2.2.2.2.2.2.2.1⟩, Lib.hid ?_, Lib.hid ?_⟩, Lib.hid ?_, Lib.hid ?_, Lib.hid ?_, ?_⟩, by simp [intOf]; omega⟩
                · exact BK.grown60 (BK.alloc HA5.out _) HG6.out (fun e => by have := HO5.out.own_ge _ e; omega)
                · show _ = (tsL (trAt TT xs ss k).1 (xs.getD k 0) (ss.getD k false)).1
                  rw [HST.out, HQ4.out]
                · exact BK.grown60 (BK.alloc HE5.out _) HG6.out (fun e => by have := HO5.out.own_ge _ e; omega)
                · show OW _ _ _ _ ((trAt TT xs ss k).2.1 ++ [(tsL (trAt TT xs ss k).1 (xs.getD k 0) (ss.getD k false)).2.1])
                  rw [HST.out, HQ4.out]
                  exact HO6.out
                · show ((trAt TT xs ss k).2.2 && (tsL (trAt TT xs ss k).1 (xs.getD k 0) (ss.getD k false)).2.2) = true
                  rw [HOK.out, HST.out, HQ4.out]
                  rfl
                · exact (hb5.alloc hz5 _).grown HG6.out (by simp; omega) (fun g hg => by have := HO5.out.own_ge g hg; omega)
              case e8 =>
                go_simp
                refine k_world fun W7 hW7 => ?_
                have HW7 := Lib.hid hW7
                clear hW7
                have HN : Hid (BK W7 _ [.float .f32 0, .float .f32 0, .float .f32 0, .float .f32 0, .float .f32 0, .float .f32 0, .float .f32 0, .float .f32 0]) := Lib.hid (by rw [HW7.out]; first | exact BK.newAt2 _ _ _ rfl | exact BK.drew (BK.newAt2 _ _ _ rfl) | exact BK.drewN (BK.newAt2 _ _ _ rfl) _)
                have hzn := HN.out.lt
                replace HA : Hid (BK W7 w.heap.size [.float .f32 q0, .float .f32 q1, .float .f32 q2, .float .f32 q3, .float .f32 q4, .float .f32 q5, .float .f32 q6, .float .f32 q7]) := Lib.hid (by rw [HW7.out]; first | exact BK.alloc HA.out _ | exact BK.alloc (BK.drew HA.out) _ | exact BK.drew (BK.alloc HA.out _) | exact BK.drewN (BK.alloc HA.out _) _)
                replace HE : Hid (BK W7 (w.heap.size + 1) [.float .f32 0, .float .f32 0, .float .f32 0, .float .f32 0, .float .f32 0, .float .f32 0, .float .f32 0, .float .f32 0]) := Lib.hid (by rw [HW7.out]; first | exact BK.alloc HE.out _ | exact BK.alloc (BK.drew HE.out) _ | exact BK.drew (BK.alloc HE.out _) | exact BK.drewN (BK.alloc HE.out _) _)
                replace HO : Hid (OW 33 (w.heap.size + 2) W7 u9 _) := Lib.hid (by rw [HW7.out]; first | exact OW.alloc HO.out _ | exact OW.alloc (OW.drew HO.out) _ | exact OW.drew (OW.alloc HO.out _) | exact OW.drewN (OW.alloc HO.out _) _)
                replace HSB : Hid (W7.cell? ⟨b2, o2 + k, none⟩ = some (.bool sb)) := Lib.hid (by rw [HW7.out]; first | exact (World.cell?_alloc_lt _ _ _ (by (try simp only [World.heap_drewN, World.size_drew]); first | exact hbl2' | omega)).trans HSB.out | (go_simp; exact HSB.out))
                replace hb : Below w.heap.size w W7 := by rw [HW7.out]; first | exact Below.alloc hb (by omega) _ | exact Below.alloc (Below.drew hb) (by (try simp only [World.size_drew]); omega) _ | exact Below.drew (Below.alloc hb (by omega) _)
                clear HW7
                refine hK.out _ _ (by first | exact ⟨HA.out.cells, HSB.out⟩ | exact ⟨(BK.drew HA.out).cells, HSB.out⟩ | exact ⟨(BK.drewN HA.out _).cells, HSB.out⟩ | (simp; done)) (fun hH4 => ?_)
                clear hK K hH0
                (try simp only [Act.put, List.setIfInBounds_toArray, List.set_cons_zero, List.set_cons_succ])
                refine wpAnyH_ready (rs := [6]) (by kernel_rfl) (by simp) (AllReadyH.cons (o := { dst := some 46, op := Op.call { callee := Callee.value (Operand.func 30), args := #[Operand.tmp 40, Operand.tmp 41, Operand.tmp 45], argTypes := #[47, 33, 4] }, type := 56, pos := "l05_models.go:391", after := #[{ on := 0, ground := Ground.data }, { on := 1, ground := Ground.data }, { on := 5, ground := Ground.data }], guard := none }) rfl (fun K hK => ?e11) AllReadyH.nil)
                go_simp
                go_at_call 30
                refine (i_TrendStep q0 q1 q2 q3 q4 q5 q6 q7 x hq0 hq1 hq2 hq3 hq4 hq5 hq6 hq7 hx sb _).mono ?_
                rintro z w4 ⟨hte, hb4⟩
                obtain ⟨r0, r1, r2, r3, r4, r5, r6, r7, rE, ok, rfl, hbds, hq⟩ := hte
                have hok2 : ok = _ := (congrArg (fun p => p.2.2) hq).symm.trans HK.out
                subst hok2
                have HQ4 := Lib.hid hq
                clear hq
                have hyy := hb4.size
                (try simp only [World.heap_drewN, World.size_drew] at hyy)
                replace HA := Lib.hid (BK.keep (by first | exact HA.out | exact BK.drew HA.out | exact BK.drewN HA.out _) hb4)
                replace HE := Lib.hid (BK.keep (by first | exact HE.out | exact BK.drew HE.out | exact BK.drewN HE.out _) hb4)
                replace HO := Lib.hid (OW.keep (by first | exact HO.out | exact OW.drew HO.out | exact OW.drewN HO.out _) hb4)
                replace HSB := Lib.hid ((hb4.cell (p := ⟨b2, o2 + k, none⟩) (by (try simp only [World.heap_drewN, World.size_drew]); omega)).trans HSB.out)
                (try (replace HXB := Lib.hid ((hb4.cell (p := ⟨b1, o1 + k, none⟩) (by (try simp only [World.heap_drewN, World.size_drew]); omega)).trans HXB.out)))
                (try (replace HN := Lib.hid (BK.keep (by first | exact HN.out | exact BK.drew HN.out | exact BK.drewN HN.out _) hb4)))
                replace hb := Below.trans (by first | exact hb | exact Below.drew hb | exact below_drewN hb _) (hb4.mono (by (try simp only [World.heap_drewN, World.size_drew]); omega))
                clear hb4
                refine hK.out _ _ (by first | exact ⟨HA.out.cells, HSB.out⟩ | exact ⟨(BK.drew HA.out).cells, HSB.out⟩ | exact ⟨(BK.drewN HA.out _).cells, HSB.out⟩ | (simp; done)) (fun hH5 => ?_)
                clear hK K hH4
                (try simp only [Act.put, List.setIfInBounds_toArray, List.set_cons_zero, List.set_cons_succ])
                refine wpAnyH_take (i := 7) (oi := { dst := some 39, op := Op.move (Operand.tmp 46), type := 56, pos := "l05_models.go:391", after := #[{ on := 6, ground := Ground.data }], guard := none }) (v := ?_) rfl (by kernel_rfl) (by kernel_rfl) (by kernel_rfl) (fun _ _ _ h => h) (Or.inl ⟨by rfl, ?_⟩) hH5 ?_
                rotate_left
                · (intro w hSw; (try dsimp only at hSw); go_simp; try with_reducible rfl)
                (try simp only [Act.put, List.setIfInBounds_toArray, List.set_cons_zero, List.set_cons_succ])
                refine wpAnyH_take (i := 8) (oi := { dst := some 47, op := Op.extract (Operand.tmp 39) 0, type := 47, pos := "l05_models.go:391", after := #[{ on := 7, ground := Ground.data }], guard := none }) (v := ?_) rfl (by kernel_rfl) (by kernel_rfl) (by kernel_rfl) (fun _ _ _ h => h) (Or.inl ⟨by rfl, ?_⟩) hH5 ?_
                rotate_left
                · (intro w hSw; (try dsimp only at hSw); go_simp; try with_reducible rfl)
                (try simp only [Act.put, List.setIfInBounds_toArray, List.set_cons_zero, List.set_cons_succ])
                refine wpAnyH_take (i := 9) (oi := { dst := some 48, op := Op.extract (Operand.tmp 39) 1, type := 33, pos := "l05_models.go:391", after := #[{ on := 7, ground := Ground.data }, { on := 12, ground := Ground.gcOnly Departure.lateStores }], guard := none }) (v := ?_) rfl (by kernel_rfl) (by kernel_rfl) (by kernel_rfl) (fun _ _ _ h => h) (Or.inl ⟨by rfl, ?_⟩) hH5 ?_
                rotate_left
                · (intro w hSw; (try dsimp only at hSw); go_simp; try with_reducible rfl)
                (try simp only [Act.put, List.setIfInBounds_toArray, List.set_cons_zero, List.set_cons_succ])
                refine wpAnyH_take (i := 10) (oi := { dst := some 49, op := Op.extract (Operand.tmp 39) 2, type := 4, pos := "l05_models.go:391", after := #[{ on := 7, ground := Ground.data }, { on := 13, ground := Ground.gcOnly Departure.lateStores }], guard := none }) (v := ?_) rfl (by kernel_rfl) (by kernel_rfl) (by kernel_rfl) (fun _ _ _ h => h) (Or.inl ⟨by rfl, ?_⟩) hH5 ?_
                rotate_left
                · (intro w hSw; (try dsimp only at hSw); go_simp; try with_reducible rfl)
                (try simp only [Act.put, List.setIfInBounds_toArray, List.set_cons_zero, List.set_cons_succ])
                refine wpAnyH_ready (rs := [12]) (by kernel_rfl) (by simp) (AllReadyH.cons (o := { dst := none, op := Op.store 47 (Operand.tmp 12) (Operand.tmp 47), type := 0, pos := "l05_models.go:391", after := #[{ on := 11, ground := Ground.data }, { on := 8, ground := Ground.data }, { on := 6, ground := Ground.chain }, { on := 0, ground := Ground.phase }, { on := 1, ground := Ground.phase }, { on := 2, ground := Ground.phase }, { on := 3, ground := Ground.phase }, { on := 4, ground := Ground.phase }, { on := 5, ground := Ground.phase }, { on := 6, ground := Ground.phase }, { on := 7, ground := Ground.phase }, { on := 8, ground := Ground.phase }, { on := 9, ground := Ground.textOnly Departure.lateStores }, { on := 10, ground := Ground.textOnly Departure.lateStores }, { on := 11, ground := Ground.phase }], guard := none }) rfl (fun K hK => ?e12) AllReadyH.nil)
                rw [if_pos (by simp [Region.wanted])]
                refine wp_storeAgg60 (us := [.float .f32 r0, .float .f32 r1, .float .f32 r2, .float .f32 r3, .float .f32 r4, .float .f32 r5, .float .f32 r6, .float .f32 r7]) (storeTr2 _ _ r0 r1 r2 r3 r4 r5 r6 r7) rfl rfl (by simp [Value.oneCell']) (by first | exact HN.out | exact BK.drew HN.out | exact BK.drewN HN.out _) (by simp) ?_
                intro W8 hB8 hO8 hL8 hZ8 hG8
                replace HN := Lib.hid hB8
                simp [setsAt] at HN
                replace HA := Lib.hid (hO8 _ _ (by first | exact HA.out | exact BK.drew HA.out | exact BK.drewN HA.out _) (by omega))
                replace HE := Lib.hid (hO8 _ _ (by first | exact HE.out | exact BK.drew HE.out | exact BK.drewN HE.out _) (by omega))
                replace HO := Lib.hid (OW.kept (by first | exact HO.out | exact OW.drew HO.out | exact OW.drewN HO.out _) hG8 (by cases hv : Value.ownBlock u9 with | none => exact .inl rfl | some g => exact .inr (fun e => by injection e with e; have := HOL.out g hv; omega)))
                replace HSB := Lib.hid ((World.cell?_of_block (hG8.block b2 (by (try simp only [World.heap_drewN, World.size_drew]); omega) (fun e => by injection e with e; omega))).trans HSB.out)
                (try (replace HXB := Lib.hid ((World.cell?_of_block (hG8.block b1 (by (try simp only [World.heap_drewN, World.size_drew]); omega) (fun e => by injection e with e; omega))).trans HXB.out)))
                replace hb := hL8 _ _ (by first | exact hb | exact Below.drew hb | exact below_drewN hb _) (by omega)
                clear hB8 hO8 hL8 hG8
                refine hK.out _ _ (by first | exact ⟨HA.out.cells, HSB.out⟩ | exact ⟨(BK.drew HA.out).cells, HSB.out⟩ | exact ⟨(BK.drewN HA.out _).cells, HSB.out⟩ | (simp; done)) (fun hH6 => ?_)
                clear hK K hH5
                (try simp only [Act.put, List.setIfInBounds_toArray, List.set_cons_zero, List.set_cons_succ])
                refine wpAnyH_take (i := 13) (oi := { dst := some 13, op := Op.assign (Operand.tmp 48), type := 33, pos := "l05_models.go:391", after := #[{ on := 9, ground := Ground.data }, { on := 12, ground := Ground.chain }, { on := 0, ground := Ground.phase }, { on := 1, ground := Ground.phase }, { on := 2, ground := Ground.phase }, { on := 3, ground := Ground.phase }, { on := 4, ground := Ground.phase }, { on := 5, ground := Ground.phase }, { on := 6, ground := Ground.phase }, { on := 7, ground := Ground.phase }, { on := 8, ground := Ground.phase }, { on := 9, ground := Ground.phase }, { on := 10, ground := Ground.textOnly Departure.lateStores }, { on := 11, ground := Ground.phase }, { on := 12, ground := Ground.phase }], guard := none }) (v := ?_) rfl (by kernel_rfl) (by kernel_rfl) (by kernel_rfl) (fun _ _ _ h => h) (Or.inl ⟨by rfl, ?_⟩) hH6 ?_
                rotate_left
                · (intro w hSw; (try dsimp only at hSw); go_simp; try with_reducible rfl)
                (try simp only [Act.put, List.setIfInBounds_toArray, List.set_cons_zero, List.set_cons_succ])
                refine wpAnyH_take (i := 14) (oi := { dst := some 14, op := Op.assign (Operand.tmp 49), type := 4, pos := "l05_models.go:391", after := #[{ on := 10, ground := Ground.data }, { on := 13, ground := Ground.chain }, { on := 0, ground := Ground.phase }, { on := 1, ground := Ground.phase }, { on := 2, ground := Ground.phase }, { on := 3, ground := Ground.phase }, { on := 4, ground := Ground.phase }, { on := 5, ground := Ground.phase }, { on := 6, ground := Ground.phase }, { on := 7, ground := Ground.phase }, { on := 8, ground := Ground.phase }, { on := 9, ground := Ground.phase }, { on := 10, ground := Ground.phase }, { on := 11, ground := Ground.phase }, { on := 12, ground := Ground.phase }, { on := 13, ground := Ground.phase }], guard := none }) (v := ?_) rfl (by kernel_rfl) (by kernel_rfl) (by kernel_rfl) (fun _ _ _ h => h) (Or.inl ⟨by rfl, ?_⟩) hH6 ?_
                rotate_left
                · (intro w hSw; (try dsimp only at hSw); go_simp; try with_reducible rfl)
                (try simp only [Act.put, List.setIfInBounds_toArray, List.set_cons_zero, List.set_cons_succ])
                refine wpAnyH_done (by kernel_rfl) ?_ _
                clear hH6
                have hcn := HN.out.cells
                have HLN := Lib.hid (show (trAt TT xs ss k).2.1.length < 1099511627776 by rw [trAt_length]; omega)
                go_wp2_with (first | (at_builtin; refine wpList_app1 f32sR (w.heap.size + 2) u9 _ rfl (by first | exact OW.drewN (OW.alloc HO5.out _) _ | exact OW.alloc HO5.out _) _ _ rfl (by simp; rfl) (by exact hbds.2.2.2.2.2.2.2.2) HLN.out (by have := HE5.out.lt; simp; omega) ?_; intro v6 w6 ho6 hg6; have HO6 := Lib.hid ho6; have HG6 := Lib.hid hg6; clear ho6 hg6) | (refine wpList_storeAgg (us := [.float .f32 r0, .float .f32 r1, .float .f32 r2, .float .f32 r3, .float .f32 r4, .float .f32 r5, .float .f32 r6, .float .f32 r7]) (storeTr2 _ _ r0 r1 r2 r3 r4 r5 r6 r7) rfl rfl (by simp [Value.oneCell']) (by first | exact HA.out | exact BK.drew HA.out | exact BK.drewN HA.out _) (by simp) ?_; intro W5 hB hO hL hZ hG; have HA5 := Lib.hid hB; have HE5 := Lib.hid (hO _ _ (by first | exact HE.out | exact BK.drew HE.out | exact BK.drewN HE.out _) (by omega)); have HO5 := Lib.hid (OW.kept (by first | exact HO.out | exact OW.drew HO.out | exact OW.drewN HO.out _) hG (by cases hv : Value.ownBlock u9 with | none => exact .inl rfl | some g => exact .inr (fun e => by injection e with e; have := HO.out.own_ge g hv; omega))); have hb5 := hL _ _ (by first | exact hb | exact Below.drew hb | exact below_drewN hb _) (Nat.le_refl _); have hz5 := hb5.size; clear hB hO hL hG hcn; simp [setsAt] at HA5))
                refine ⟨⟨k + 1, by omega, by go_num, ⟨r0, r1, r2, r3, r4, r5, r6, r7, ⟨hbds.1, hbds.2.1, hbds.2.2.1, hbds.2.2.2.1, hbds.2.2.2.2.1, hbds.2.2.2.2.2.1, hbds.2.2.2.2.2.2.1, hbds.2.2.2.2.2.2.2.1⟩, Lib.hid ?_, Lib.hid ?_⟩, Lib.hid ?_, Lib.hid ?_, Lib.hid ?_, ?_⟩, by simp [intOf]; omega⟩
                · exact BK.grown60 (BK.alloc HA5.out _) HG6.out (fun e => by have := HO5.out.own_ge _ e; omega)
                · show _ = (tsL (trAt TT xs ss k).1 (xs.getD k 0) (ss.getD k false)).1
                  rw [HST.out, HQ4.out]
                · exact BK.grown60 (BK.alloc HE5.out _) HG6.out (fun e => by have := HO5.out.own_ge _ e; omega)
                · show OW _ _ _ _ ((trAt TT xs ss k).2.1 ++ [(tsL (trAt TT xs ss k).1 (xs.getD k 0) (ss.getD k false)).2.1])
                  rw [HST.out, HQ4.out]
                  exact HO6.out
                · show ((trAt TT xs ss k).2.2 && (tsL (trAt TT xs ss k).1 (xs.getD k 0) (ss.getD k false)).2.2) = true
                  rw [HOK.out, HST.out, HQ4.out]
                  rfl
                · exact (hb5.alloc hz5 _).grown HG6.out (by simp; omega) (fun g hg => by have := HO5.out.own_ge g hg; omega)
          · have hkn : k = xs.length := by omega
            subst hkn
            have hce := HE.out.cells
            have hfe := HE.out.fro
            have hca := HA.out.cells
            go_wp2_with (refine wpList_storeAgg (us := [.float .f32 q0, .float .f32 q1, .float .f32 q2, .float .f32 q3, .float .f32 q4, .float .f32 q5, .float .f32 q6, .float .f32 q7]) (storeTr2 _ _ q0 q1 q2 q3 q4 q5 q6 q7) rfl rfl (by simp [Value.oneCell']) (by first | exact HE.out | exact BK.drew HE.out | exact BK.drewN HE.out _) (by simp) ?_; intro W5 hB hO hL hZ hG; have HE5 := Lib.hid hB; have hbw5 := hL _ _ (by first | exact hb | exact Below.drew hb | exact below_drewN hb _) (by omega); have HO5 := Lib.hid (OW.kept (by first | exact HO.out | exact OW.drew HO.out | exact OW.drewN HO.out _) hG (by cases hv : Value.ownBlock u9 with | none => exact .inl rfl | some g => exact .inr (fun e => by injection e with e; have := HO.out.own_ge g hv; omega))); clear hB hO hL hG hce hfe hca; simp [setsAt] at HE5; have hce := HE5.out.cells)
            (try simp only [Exit.inBlock, Exit.then])
            refine bodyPost_ret (by simp [results, Try.results25, go_sem, hce]; try rfl) rfl ⟨?_, hbw5⟩
            rw [HQY.out HOK.out]
            exact ⟨q0, q1, q2, q3, q4, q5, q6, q7, _, _, rfl, HTA.out, HO5.out.down (by omega), HOK.out.symm, all8 hq0 hq1 hq2 hq3 hq4 hq5 hq6 hq7⟩
      · have hl2 : ((ss.length : Int) != (xs.length : Int)) = true := by simp; omega
        have HT := Lib.hid hT
        have HS := Lib.hid hs
        have HQ := Lib.hid (trQ_no (T := [cn .f32 l, cn .f32 s, cn .f32 a, cn .f32 b, cn .f32 c, cn .f32 n, cn .f32 d, cn .f32 t]) (xs := xs) (ss := ss) (by rw [decide_eq_false hl, Bool.and_false]; rfl))
        clear hT hs
        go_enter Try.func25, Try.ntmps25
        go_wp2_with (first
          | (go_at_call 27; refine (i_ValidTrend l s a b c n d t _).mono ?_; rintro z w1 ⟨rfl, hb1⟩; rw [HT.out]; have hbw : Below w.heap.size w w1 := (by (repeat (first | with_reducible exact Below.refl _ _ | with_reducible assumption | with_reducible refine below_drewN ?_ _ | with_reducible refine Below.drew ?_ | with_reducible refine Below.alloc ?_ (by first | omega | (simp; omega) | (simp; done) | (simp at *; omega)) _ | with_reducible refine Below.setCell ?_ (by first | omega | (simp; omega) | (simp; done) | (simp at *; omega)) _ | refine Below.trans ?_ (Below.mono (by with_reducible assumption) (by first | omega | (simp; omega) | (simp; done) | (simp at *; omega)))))); have HA := Lib.hid (show BK w1 w.heap.size [.float .f32 l, .float .f32 s, .float .f32 a, .float .f32 b, .float .f32 c, .float .f32 n, .float .f32 d, .float .f32 t] from BK.keep (BK.alloc (BK.newAt2 _ _ _ rfl) _) hb1); have HE := Lib.hid (show BK w1 (w.heap.size + 1) [.float .f32 0, .float .f32 0, .float .f32 0, .float .f32 0, .float .f32 0, .float .f32 0, .float .f32 0, .float .f32 0] from BK.keep (BK.newAt2 _ _ _ (by simp)) hb1); have hz1 := hbw.size; clear hb1; have hca := HA.out.cells; have hce := HE.out.cells; have hfe := HE.out.fro)
          | (go_at_call 60; refine (i_IsSeries _ xs _ (SB.sl (SB.keep HV.out (by first | exact hbw | exact below_drewN hbw _)))).mono ?_; rintro z w2 ⟨rfl, n2, rfl⟩; rw [HS.out])
          | (refine wpList_storeAgg (us := [.float .f32 0, .float .f32 0, .float .f32 0, .float .f32 0, .float .f32 0, .float .f32 0, .float .f32 0, .float .f32 0]) (storeTr2 _ _ 0 0 0 0 0 0 0 0) rfl rfl (by simp [Value.oneCell']) (by first | exact HE.out | exact BK.drewN HE.out _) (by simp) ?_; intro W5 hB hO hL hZ hG; have HE5 := Lib.hid hB; have hbw5 := hL _ _ (by first | exact hbw | exact below_drewN hbw _) (by omega); clear hB hO hL hG hce hfe; simp [setsAt] at HE5; have hce := HE5.out.cells))
        (try simp only [Exit.inBlock, Exit.then])
        refine bodyPost_ret (by simp [results, Try.results25, go_sem, hce]; try rfl) rfl ⟨TRE.no _ _ _ HQ.out, hbw5⟩

end Go.Proofs.Ytkkomajokdlkeaa
