/- Contracts: the desk at the beginning. -/
import Derived.Test.YtfckfdaloamkdaaK27
import Derived.Test.YtfckfdaloamkdaaK18
namespace Go.Proofs.Ytfckfdaloamkdaa
set_option maxRecDepth 100000
set_option maxHeartbeats 4000000
set_option linter.unusedSimpArgs false
set_option linter.unusedVariables false
open Go.RowKit
attribute [local go_sem] run_store_float run_store_complex alloc_drewN setCell_drewN

theorem SB.taken {w : World} {ao : Option Addr} {n c m : Nat} {cs : List Nat} (h : SB w (.slice ao n c) cs) (hm : m ≤ n) : SB w (.slice ao m c) (cs.take m) := by
  obtain ⟨bo, d, xs, hv, rfl, hlen, hlt, hcell⟩ := h
  simp only [Value.slice.injEq] at hv
  obtain ⟨rfl, rfl, rfl⟩ := hv
  have hl : (xs.take m).length = m := by rw [List.length_take]; omega
  refine ⟨ao, c, xs.take m, by rw [hl], List.map_take, by rw [hl]; omega, fun x hx => hlt x (List.mem_of_mem_take hx), fun i hi => ?_⟩
  rw [hl] at hi
  obtain ⟨b, off, e1, e2, e3⟩ := hcell i (by omega)
  exact ⟨b, off, e1, e2, by rw [e3]; simp⟩
theorem SB.from1 {w : World} {b off n c m : Nat} {cs : List Nat} (h : SB w (.slice (some ⟨b, off, none⟩) n c) cs) (hm : 1 + m ≤ n) : SB w (.slice (some ⟨b, off + 1, none⟩) m (c - 1)) ((cs.drop 1).take m) := by
  obtain ⟨bo, d, xs, hv, rfl, hlen, hlt, hcell⟩ := h
  simp only [Value.slice.injEq] at hv
  obtain ⟨rfl, rfl, rfl⟩ := hv
  have hl : ((xs.drop 1).take m).length = m := by rw [List.length_take, List.length_drop]; omega
  refine ⟨_, c - 1, (xs.drop 1).take m, by rw [hl], by rw [List.map_take, List.map_drop], by rw [hl]; omega, fun x hx => hlt x (List.mem_of_mem_drop (List.mem_of_mem_take hx)), fun i hi => ?_⟩
  rw [hl] at hi
  obtain ⟨b2, off2, e1, e2, e3⟩ := hcell (1 + i) (by omega)
  simp only [Option.some.injEq, Addr.mk.injEq, and_true] at e1
  obtain ⟨rfl, rfl⟩ := e1
  refine ⟨b, off + 1, rfl, e2, ?_⟩
  rw [Nat.add_assoc, e3]
  simp [Nat.add_comm]
theorem OW.lit (w : World) (xs : List Nat) (T : TypeId) (hx : ∀ x ∈ xs, x < 4294967296) (hl : xs.length ≤ 1000) {cells : Array Value} (hc : cells = (xs.map (Value.float .f32)).toArray) {n : Nat} (hn : n = w.heap.size) {lo : Nat} (hlo : lo ≤ w.heap.size) :
    OW T lo (w.alloc (.cells cells T)) (.slice (some ⟨n, 0, none⟩) xs.length xs.length) (xs.map (cn .f32)) := by
  subst hn hc
  refine ⟨xs, ⟨by simp, .inr ⟨w.heap.size, xs.length, (xs.map (Value.float .f32)).toArray, rfl, hlo, ?_, Nat.le_refl _, ?_, by simp, ?_⟩⟩, rfl, hx⟩
  · show (w.heap.push _)[w.heap.size]? = _
    rw [Array.getElem?_push, if_pos rfl]
  · have : maxLen = 9223372036854775807 := rfl
    omega
  · rw [Nat.mul_one]
    exact List.take_of_length_le (by simp)
theorem OW.rebase2 {T lo : Nat} {w : World} {b n c : Nat} {cs : List Nat} (h : OW T lo w (.slice (some ⟨b, 0, none⟩) n c) cs) : OW T b w (.slice (some ⟨b, 0, none⟩) n c) cs := by
  obtain ⟨xs, ⟨hl, ho⟩, r⟩ := h
  refine ⟨xs, ⟨hl, ?_⟩, r⟩
  rcases ho with h | ⟨g, cap, cur, hv, hb, rest⟩
  · exact .inl h
  · refine .inr ⟨g, cap, cur, hv, ?_, rest⟩
    simp only [Value.slice.injEq, Option.some.injEq, Addr.mk.injEq, and_true] at hv
    omega
theorem k_world {K : Act → World → Prop} {a : Act} {w : World} (h : ∀ W, W = w → K a W) : K a w := h w rfl
theorem wp_world {P : Program} {c : Code} {Q : Exit → Act → World → Prop} {a : Act} {w : World} (h : ∀ W, W = w → Code.wp P c Q a W) : Code.wp P c Q a w := h w rfl
def nd4 : List Nat := [1065353216, 1077936128, 1084227584, 1088421888]
theorem mean1 : meanL ((nd4.map (cn .f32)).take 1) = 1065353216 := by decide +kernel
theorem mean3 : meanL (((nd4.map (cn .f32)).drop 1).take 1) = 1077936128 := by decide +kernel
theorem slope2 : ar .quo .f32 (ar .sub .f32 1077936128 1065353216) (cn .f32 (floatOfInt .f32 1)) = 1073741824 := by decide +kernel

set_option maxRecDepth 100000 in
theorem i_startState (b off c : Nat) (w : World) (hv : SB w (.slice (some ⟨b, off, none⟩) 4 c) (nd4.map (cn .f32))) (hc : 4 ≤ c) (hc2 : c ≤ 9223372036854775807) :
    Calls Try.prog 75 #[.slice (some ⟨b, off, none⟩) 4 c, .int .i64 1] w fun z w' => (∃ r0 r1 u, z = .returned (.agg #[.float .f32 r0, .float .f32 r1, u, .int .i64 0]) ∧ r0 < 4294967296 ∧ r1 < 4294967296 ∧ cn .f32 r0 = 1065353216 ∧ cn .f32 r1 = 1073741824 ∧ OW 54 w.heap.size w' u [0]) ∧ Below w.heap.size w w' := by
  have HV := Lib.hid hv
  clear hv
  obtain ⟨RS, NS, hS⟩ := run_ar_all Try.prog .sub rfl
  obtain ⟨RQ, NQ, hQ⟩ := run_ar_all Try.prog .quo rfl
  have hw2 : IntKind.i64.wrap 2 = 2 := by decide
  go_enter Try.func75, Try.ntmps75
  go_wp2_with (first
    | (go_at_call 108; (refine (i_mean _ _ _ (SB.sl (SB.taken (SB.keep HV.out (by (repeat (first | with_reducible exact Below.refl _ _ | with_reducible assumption | with_reducible refine below_drewN ?_ _ | with_reducible refine Below.drew ?_ | with_reducible refine Below.alloc ?_ (by first | omega | (simp; omega) | (simp; done) | (simp at *; omega)) _ | with_reducible refine Below.setCell ?_ (by first | omega | (simp; omega) | (simp; done) | (simp at *; omega)) _ | refine Below.trans ?_ (Below.mono (by with_reducible assumption) (by first | omega | (simp; omega) | (simp; done) | (simp at *; omega))))))) (m := 1) (by omega)))).mono ?_; rintro z w1 ⟨⟨r0, rfl, hr0, hs0⟩, n1, rfl⟩; rw [mean1] at hs0; have HR0 := Lib.hid hs0; clear hs0))
    | (refine wpList_storeAgg (us := [.float .f32 _, .float .f32 _, .slice _ _ _, .int .i64 _]) (storeSt _ _ _ _ _ _ _ _) rfl rfl (by simp [Value.oneCell']) (BK.newAt (n := w.heap.size + 1) _ _ _ (by simp)) (by simp) ?_; intro W hE hO hL hZ hG; have HE := Lib.hid hE; trace_state))
  refine wp_world fun W hW => ?_
  have HE := Lib.hid (show BK W (w.heap.size + 1) [.float .f32 r0, .float .f32 0, .slice none 0 0, .int .i64 0] from by rw [hW]; first | exact BK.newAt _ _ _ (by simp) | exact BK.drewN (BK.newAt _ _ _ (by simp)) _)
  have HA := Lib.hid (show BK W w.heap.size [.float .f32 0, .float .f32 0, .slice none 0 0, .int .i64 0] from by rw [hW]; first | exact BK.alloc (BK.newAt _ _ _ rfl) _ | exact BK.drewN (BK.alloc (BK.newAt _ _ _ rfl) _) _ | exact BK.alloc (BK.drewN (BK.newAt _ _ _ rfl) _) _)
  have hbw : Below w.heap.size w W := by rw [hW]; (repeat (first | with_reducible exact Below.refl _ _ | with_reducible assumption | with_reducible refine below_drewN ?_ _ | with_reducible refine Below.drew ?_ | with_reducible refine Below.alloc ?_ (by first | omega | (simp; omega) | (simp; done) | (simp at *; omega)) _ | with_reducible refine Below.setCell ?_ (by first | omega | (simp; omega) | (simp; done) | (simp at *; omega)) _ | refine Below.trans ?_ (Below.mono (by with_reducible assumption) (by first | omega | (simp; omega) | (simp; done) | (simp at *; omega)))))
  clear hW
  have HV0 := Lib.hid HV.out
  replace HV := Lib.hid (SB.keep HV.out hbw)
  have HV1 := Lib.hid (SB.from1 HV.out (m := 1) (by omega))
  have hce := HE.out.cells; have hfe := HE.out.fro
  go_region_with (go_at_call 108; (refine (i_mean _ _ _ (SB.sl (by first | exact HV1.out | exact HV1.out.drew | exact HV1.out.drewN _))).mono ?_; rintro z w3 ⟨⟨r3, rfl, hr3, hs3⟩, n3, rfl⟩; rw [mean3] at hs3; have HR3 := Lib.hid hs3; clear hs3))
  all_goals
    go_wp2_with fail
    refine wp_world fun W2 hW2 => ?_
    obtain ⟨n9, r1, hW3, hr1, hcn1⟩ : ∃ n r1, W2 = (W.setCell ⟨w.heap.size + 1, 1, none⟩ (.float .f32 r1)).drewN n ∧ r1 < 4294967296 ∧ cn .f32 r1 = 1073741824 := ⟨_, _, hW2, (hQ 0 _ _ _).2.2, by rw [(hQ 0 _ _ _).2.1, (hS 0 _ _ _).2.1, HR3.out, HR0.out]; exact slope2⟩
    have HR1 := Lib.hid hcn1
    clear hW2 hcn1 hce hfe
    have HE2 := Lib.hid (show BK W2 (w.heap.size + 1) [.float .f32 r0, .float .f32 r1, .slice none 0 0, .int .i64 0] from by rw [hW3]; exact BK.drewN (BK.set HE.out (j := 1) (by simp) _) _)
    have HA2 := Lib.hid (show BK W2 w.heap.size [.float .f32 0, .float .f32 0, .slice none 0 0, .int .i64 0] from by rw [hW3]; exact BK.drewN (BK.other HA.out 1 _ (by omega)) _)
    have hbw2 : Below w.heap.size w W2 := by rw [hW3]; exact below_drewN (Below.setCell hbw (by simp) _) _
    clear hW3 HE HA hbw HV HV1
    have HV := Lib.hid (SB.keep HV0.out hbw2)
    have hce := HE2.out.cells; have hfe := HE2.out.fro
    go_region_with (go_at_call 109; (refine (i_lessOne _ ((nd4.map (cn .f32)).take 1) _ _ (SB.taken (by first | exact HV.out | exact HV.out.drew | exact HV.out.drewN _) (m := 1) (by omega)) (by simp [nd4])).mono ?_; rintro z w4 ⟨⟨u4, rfl, hu4⟩, hb4⟩; obtain ⟨bo4, cc4, rfl, hq4⟩ := hu4.sb.sl.slice; clear hq4 hu4; have HE4 := Lib.hid (BK.keep (by first | exact HE2.out | exact BK.drew HE2.out | exact BK.drewN HE2.out _) hb4); have HA4 := Lib.hid (BK.keep (by first | exact HA2.out | exact BK.drew HA2.out | exact BK.drewN HA2.out _) hb4); have hbw4 := Below.trans (by first | exact hbw2 | exact Below.drew hbw2 | exact below_drewN hbw2 _) (Below.mono hb4 (by exact hbw2.size)); have hce4 := HE4.out.cells; have hfe4 := HE4.out.fro))
    all_goals
      refine k_world fun W5 hW5 => ?_
      obtain ⟨n4, hn4⟩ : ∃ n4, n4 = (restL ((nd4.map (cn .f32)).take 1) (cn .f32 r0) ((nd4.map (cn .f32)).take 1).length).length := ⟨_, rfl⟩
      have HE5 := Lib.hid (show BK W5 (w.heap.size + 1) [.float .f32 r0, .float .f32 r1, .slice bo4 n4 cc4, .int .i64 0] from by rw [hW5, hn4]; first | exact BK.set HE4.out (j := 2) (by simp) _ | exact BK.drewN (BK.set HE4.out (j := 2) (by simp) _) _ | exact BK.drew (BK.set HE4.out (j := 2) (by simp) _) | exact BK.set (BK.drewN HE4.out _) (j := 2) (by simp) _)
      have HA5 := Lib.hid (show BK W5 w.heap.size [.float .f32 0, .float .f32 0, .slice none 0 0, .int .i64 0] from by rw [hW5]; first | exact BK.other HA4.out 2 _ (by omega) | exact BK.drewN (BK.other HA4.out 2 _ (by omega)) _ | exact BK.other (BK.drewN HA4.out _) 2 _ (by omega))
      have hbw5 : Below w.heap.size w W5 := by rw [hW5]; first | exact Below.setCell hbw4 (by simp) _ | exact below_drewN (Below.setCell hbw4 (by simp) _) _ | exact Below.setCell (below_drewN hbw4 _) (by simp) _
      clear hW5 hn4 hce hfe hce4 hfe4 HE4 HA4 hbw4 hb4 HE2 HA2 hbw2 HV
      have hce := HE5.out.cells; have hfe := HE5.out.fro
      have hz5 := hbw5.size
      go_wp2_with (first
        | (refine wpList_storeBK3 (storeS _ _ _ _ _) rfl rfl rfl (BK.alloc HE5.out _) (by simp) ?_; intro W6 hB hO hL hZ hG; have HE6 := Lib.hid hB; have HA6 := Lib.hid (hO _ _ (BK.alloc HA5.out _) (by simp)); have hbw6 := hL _ _ (Below.alloc hbw5 hz5 _) (by simp); have HU := Lib.hid (OW.kept (OW.lit W5 [0] 54 (by simp) (by simp) rfl rfl hz5) hG (.inr (by have := HE5.out.lt; simp [Value.ownBlock]; omega))); clear hB hO hL hG hce hfe; simp only [List.set_cons_zero, List.set_cons_succ] at HE6; have hce := HE6.out.cells; have hfe := HE6.out.fro)
        | ((refine wpList_storeAgg (us := [.float .f32 _, .float .f32 _, .slice _ _ _, .int .i64 _]) (storeSt _ _ _ _ _ _ _ _) rfl rfl (by simp [Value.oneCell']) HA6.out (by simp) ?_; intro W7 hB hO hL hZ7 hG; have HA7 := Lib.hid hB; have hbw7 := hL _ _ hbw6 (Nat.le_refl _); have HU7 := Lib.hid (OW.grown_keep (OW.rebase2 HU.out) hG (fun g e => by have := HA5.out.lt; injection e with e; omega)); clear hB hO hL hG hce hfe; simp [setsAt] at HA7; have hca := HA7.out.cells)))
      (try simp only [Exit.inBlock, Exit.then])
      refine bodyPost_ret (by simp [results, Try.results75, go_sem, hca]; try rfl) rfl ⟨⟨_, _, _, rfl, hr0, hr1, HR0.out, HR1.out, ?_⟩, hbw7⟩
      have h1 := OW.down HU7.out hz5
      exact h1

end Go.Proofs.Ytfckfdaloamkdaa
