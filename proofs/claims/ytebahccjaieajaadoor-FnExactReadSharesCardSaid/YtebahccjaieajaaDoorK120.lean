/- Contracts: shares read, by the program; sameness of shares, by the laws. -/
import Derived.Test.YtebahccjaieajaaDoorK119
import Derived.Test.YtebahccjaieajaaDoorK112
namespace Go.Proofs.YtebahccjaieajaaDoor
set_option linter.unusedSimpArgs false
set_option linter.unusedVariables false
set_option maxRecDepth 100000
set_option maxHeartbeats 4000000
open Go.RowKit
attribute [local go_sem] run_store_float run_store_complex alloc_drewN setCell_drewN

theorem i_ReadShares (t : ByteArray) (m : Int) (ev : Value) (hev : ev = .nilIface ∨ ∃ te pe, ev = .iface te pe) (w : World) (hs : t.size ≤ 100000000) (hm : w.cell? ⟨0, 0, none⟩ = some (.int .i64 m))
    (hdb : w.cell? ⟨8, 15, none⟩ = some (.int .u8 4)) (hv : w.cell? ⟨3, 0, none⟩ = some ev) :
    Calls Tryd.prog 29 #[.string t] w fun e w' => e = .returned (.tuple #[shV (rsQ t.data.toList), .bool (rsQ t.data.toList).isSome]) ∧ Below w.heap.size w w' := by
  have HR := Lib.hid (fun w hm hdb hv => i_ReadNumbers t m ev hev w hs hm hdb hv)
  have hlm := block_lt_of_cell hm
  have hld := block_lt_of_cell hdb
  have hlv := block_lt_of_cell hv
  clear hev
  have HQ0 := Lib.hid (fun h => rsQ_none (t := t.data.toList) h)
  have HQ1 := Lib.hid (fun ns h hl => rsQ_len (t := t.data.toList) (ns := ns) h hl)
  have HQ2 := Lib.hid (fun a b c d h => rsQ_four (t := t.data.toList) (a := a) (b := b) (c := c) (d := d) h)
  generalize nrQ t.data.toList = q at *
  generalize rsQ t.data.toList = Q at *
  have HB0 := Lib.hid (BK.new w [.float .f32 0, .float .f32 0, .float .f32 0, .float .f32 0] 38)
  have HW0 := Lib.hid (show Below w.heap.size w (w.alloc (.cells #[.float .f32 0, .float .f32 0, .float .f32 0, .float .f32 0] 38)) from (Below.refl _ _).alloc (Nat.le_refl _) _)
  go_enter Tryd.func29, Tryd.ntmps29
  go_wp2_with fail
  refine (HR.out _ ((HW0.out.cell (p := ⟨0, 0, none⟩) hlm).trans hm) ((HW0.out.cell (p := ⟨8, 15, none⟩) hld).trans hdb) ((HW0.out.cell (p := ⟨3, 0, none⟩) hlv).trans hv)).mono ?_; rintro e w1 ⟨u, rfl, ho, hb⟩
  have HB1 := Lib.hid (HB0.out.keep hb)
  have HW1 := Lib.hid (HW0.out.trans (hb.mono HW0.out.size))
  have hp1 := HB1.out.lt
  clear hb HB0 HW0 hm hdb hv HR
  cases hq : q with
  | none =>
    rw [hq] at ho HQ0
    obtain rfl : u = .slice none 0 0 := ho
    have HQ := Lib.hid (HQ0.out rfl)
    go_wp2_with (refine wpList_storeAgg (us := [.float .f32 0, .float .f32 0, .float .f32 0, .float .f32 0]) (storeSh _ _ _ _ _ _) rfl rfl (by simp [Value.oneCell']) HB1.out (by simp) ?_; intro W hE hO hL hZ hG; have HW2 := Lib.hid (hL _ _ HW1.out (by omega)); simp [setsAt] at hE; have hce := hE.cells; clear hO hL hG)
    (try simp only [Exit.inBlock, Exit.then])
    refine bodyPost_ret (by simp [results, Tryd.results29, go_sem, hce]; try rfl) rfl ⟨?_, HW2.out⟩
    rw [HQ.out]; rfl
  | some ns =>
    rw [hq] at ho HQ1 HQ2
    by_cases h4 : ns.length = 4
    · obtain ⟨a, b, c, d, rfl⟩ := four_of h4
      have HQ := Lib.hid (HQ2.out a b c d rfl)
      have HSH := Lib.hid (i_ValidShares a b c d)
      generalize sharesB (cn .f32 a) (cn .f32 b) (cn .f32 c) (cn .f32 d) = B at HQ HSH
      obtain ⟨g, cp, rfl⟩ := ho.addr (by simp)
      have hcl := ho.gl.cells
      have e0 := hcl 0 _ rfl
      have e1 := hcl 1 _ rfl
      have e2 := hcl 2 _ rfl
      have e3 := hcl 3 _ rfl
      simp only [Nat.zero_add] at e0 e1 e2 e3
      clear hcl h4
      have m0 := World.new_ne _ _ e0
      have m1 := World.new_ne _ _ e1
      have m2 := World.new_ne _ _ e2
      have m3 := World.new_ne _ _ e3
      go_wp2_with fail
      go_region_held3 (fun W => W.cell? ⟨g, 0, none⟩ = some (.float .f32 a) ∧ W.cell? ⟨g, 1, none⟩ = some (.float .f32 b) ∧ W.cell? ⟨g, 2, none⟩ = some (.float .f32 c) ∧ W.cell? ⟨g, 3, none⟩ = some (.float .f32 d)) (first | (simp; done) | (simp [*]; done) | go_keep) (first | fail)
      have HE := Lib.hid ((BK.new w1 [.float .f32 a, .float .f32 b, .float .f32 c, .float .f32 d] 38).drew)
      have HB2 := Lib.hid ((HB1.out.alloc (.cells [.float .f32 a, .float .f32 b, .float .f32 c, .float .f32 d].toArray 38)).drew)
      have HW2 := Lib.hid (Below.drew (HW1.out.alloc HW1.out.size (.cells [.float .f32 a, .float .f32 b, .float .f32 c, .float .f32 d].toArray 38)))
      have hne : w.heap.size ≠ w1.heap.size := by omega
      generalize (w1.alloc (.cells #[.float .f32 a, .float .f32 b, .float .f32 c, .float .f32 d] 38)).drew = w2 at *
      generalize w1.heap.size = p at *
      have hy0 := HE.out.at (i := 0) rfl
      have hy1 := HE.out.at (i := 1) rfl
      have hy2 := HE.out.at (i := 2) rfl
      have hy3 := HE.out.at (i := 3) rfl
      go_wp2_with fail
      refine (HSH.out _).mono ?_; rintro e w3 ⟨rfl, hb⟩
      have HE3 := Lib.hid (HE.out.keep hb)
      have HB3 := Lib.hid (HB2.out.keep hb)
      have HW3 := Lib.hid (HW2.out.trans (hb.mono HW2.out.size))
      have hp3 := HB3.out.lt
      have hx0 := HE3.out.at (i := 0) rfl
      have hx1 := HE3.out.at (i := 1) rfl
      have hx2 := HE3.out.at (i := 2) rfl
      have hx3 := HE3.out.at (i := 3) rfl
      clear hy0 hy1 hy2 hy3 hb HE HB2 HW2 HB1 HW1 e0 e1 e2 e3 m0 m1 m2 m3 ho
      cases B with
      | false =>
        go_wp2_with (refine wpList_storeAgg (us := [.float .f32 0, .float .f32 0, .float .f32 0, .float .f32 0]) (storeSh _ _ _ _ _ _) rfl rfl (by simp [Value.oneCell']) HB3.out (by simp) ?_; intro W hE hO hL hZ hG; have HW4 := Lib.hid (hL _ _ HW3.out (by omega)); simp [setsAt] at hE; have hce := hE.cells; clear hO hL hG)
        (try simp only [Exit.inBlock, Exit.then])
        refine bodyPost_ret (by simp [results, Tryd.results29, go_sem, hce]; try rfl) rfl ⟨?_, HW4.out⟩
        rw [HQ.out]; rfl
      | true =>
        go_wp2_with (refine wpList_storeAgg (us := [.float .f32 a, .float .f32 b, .float .f32 c, .float .f32 d]) (storeSh _ _ _ _ _ _) rfl rfl (by simp [Value.oneCell']) HB3.out (by simp) ?_; intro W hE hO hL hZ hG; have HW4 := Lib.hid (hL _ _ HW3.out (by omega)); simp [setsAt] at hE; have hce := hE.cells; clear hO hL hG)
        (try simp only [Exit.inBlock, Exit.then])
        refine bodyPost_ret (by simp [results, Tryd.results29, go_sem, hce]; try rfl) rfl ⟨?_, HW4.out⟩
        rw [HQ.out]; rfl
    · have HQ := Lib.hid (HQ1.out ns rfl h4)
      have hlu : lenOf u = ns.length := lenOf_go ho
      rcases ho.2 with ⟨rfl, e4⟩ | ⟨g, cp, cur, rfl, -, -, -⟩
      · go_wp2_with (refine wpList_storeAgg (us := [.float .f32 0, .float .f32 0, .float .f32 0, .float .f32 0]) (storeSh _ _ _ _ _ _) rfl rfl (by simp [Value.oneCell']) HB1.out (by simp) ?_; intro W hE hO hL hZ hG; have HW2 := Lib.hid (hL _ _ HW1.out (by omega)); simp [setsAt] at hE; have hce := hE.cells; clear hO hL hG)
        (try simp only [Exit.inBlock, Exit.then])
        refine bodyPost_ret (by simp [results, Tryd.results29, go_sem, hce]; try rfl) rfl ⟨?_, HW2.out⟩
        rw [HQ.out]; rfl
      · have hn4 : ¬ (ns.length : Int) = 4 := by omega
        have hb4 : ((ns.length : Int) != 4) = true := by simp only [bne_iff_ne, ne_eq]; omega
        go_wp2_with (refine wpList_storeAgg (us := [.float .f32 0, .float .f32 0, .float .f32 0, .float .f32 0]) (storeSh _ _ _ _ _ _) rfl rfl (by simp [Value.oneCell']) HB1.out (by simp) ?_; intro W hE hO hL hZ hG; have HW2 := Lib.hid (hL _ _ HW1.out (by omega)); simp [setsAt] at hE; have hce := hE.cells; clear hO hL hG)
        (try simp only [Exit.inBlock, Exit.then])
        refine bodyPost_ret (by simp [results, Tryd.results29, go_sem, hce]; try rfl) rfl ⟨?_, HW2.out⟩
        rw [HQ.out]; rfl

theorem l_eqShares (a b c d : Nat) (w : World) :
    Calls Tryd.prog 30 #[.agg #[.float .f32 a, .float .f32 b, .float .f32 c, .float .f32 d], .agg #[.float .f32 a, .float .f32 b, .float .f32 c, .float .f32 d]] w fun z w' => z = .returned (.bool true) ∧ Below w.heap.size w w' := by
  go_enter Tryd.func30, Tryd.ntmps30
  go_wp2_with (first
    | (refine wpList_wd (by kernel_rfl) (by kernel_rfl) _ rfl ?_; intro r n hr hlt; have HR := Lib.hid hr; clear hr)
    | (go_at_call 54; refine (l_sameFloat _ _ (by exact eqw (by assumption) (by assumption) rfl) _).mono ?_; rintro z w1 ⟨rfl, n1, rfl⟩))
  go_ret
  refine ⟨rfl, ?_⟩
  (repeat (first | with_reducible exact Below.refl _ _ | with_reducible assumption | with_reducible refine below_drewN ?_ _ | with_reducible refine Below.drew ?_ | with_reducible refine Below.alloc ?_ (by first | omega | (simp; omega) | (simp; done) | (simp at *; omega)) _ | with_reducible refine Below.setCell ?_ (by first | omega | (simp; omega) | (simp; done) | (simp at *; omega)) _ | refine Below.trans ?_ (Below.mono (by with_reducible assumption) (by first | omega | (simp; omega) | (simp; done) | (simp at *; omega)))))

end Go.Proofs.YtebahccjaieajaaDoor
