/- Contracts: shares read, by the reference. -/
import Derived.Test.YtebahccjaieajaaDoorK115
import Derived.Test.YtebahccjaieajaaDoorK107
namespace Go.Proofs.YtebahccjaieajaaDoor
set_option linter.unusedSimpArgs false
set_option linter.unusedVariables false
set_option maxRecDepth 100000
set_option maxHeartbeats 4000000
open Go.RowKit
attribute [local go_sem] run_store_float run_store_complex alloc_drewN setCell_drewN
/-- The shares with a text. -/
def rsQ (t : List UInt8) : Option (Nat × Nat × Nat × Nat) := match nrQ t with
  | some [a, b, c, d] => if sharesB (cn .f32 a) (cn .f32 b) (cn .f32 c) (cn .f32 d) then some (a, b, c, d) else none
  | _ => none
def shV : Option (Nat × Nat × Nat × Nat) → Value
  | none => .agg #[.float .f32 0, .float .f32 0, .float .f32 0, .float .f32 0]
  | some (a, b, c, d) => .agg #[.float .f32 a, .float .f32 b, .float .f32 c, .float .f32 d]
theorem rsQ_none {t : List UInt8} (h : nrQ t = none) : rsQ t = none := by rw [rsQ, h]
theorem rsQ_len {t : List UInt8} {ns : List Nat} (h : nrQ t = some ns) (hl : ns.length ≠ 4) : rsQ t = none := by
  rw [rsQ, h]
  match ns, hl with
  | [], _ => rfl
  | [_], _ => rfl
  | [_, _], _ => rfl
  | [_, _, _], _ => rfl
  | [_, _, _, _], h => exact absurd rfl h
  | _ :: _ :: _ :: _ :: _ :: _, _ => rfl
theorem rsQ_four {t : List UInt8} {a b c d : Nat} (h : nrQ t = some [a, b, c, d]) : rsQ t = if sharesB (cn .f32 a) (cn .f32 b) (cn .f32 c) (cn .f32 d) then some (a, b, c, d) else none := by rw [rsQ, h]
theorem four_of {ns : List Nat} (h : ns.length = 4) : ∃ a b c d, ns = [a, b, c, d] := by
  match ns, h with
  | [a, b, c, d], _ => exact ⟨a, b, c, d, rfl⟩
theorem storeSh (p j a b c d : Nat) : ∀ w, (Instr.storeAt 38 (.pointer (some ⟨p, j, none⟩)) (.agg [.float .f32 a, .float .f32 b, .float .f32 c, .float .f32 d].toArray)).run Tryd.prog w = (storeCells ⟨p, j, none⟩ [.float .f32 a, .float .f32 b, .float .f32 c, .float .f32 d] 0).run Tryd.prog w := by intro w; go_simp

theorem s_l08ReadShares (t : ByteArray) (hs : t.size ≤ 1000000000) (w : World) :
    Calls Tryd.prog 56 #[.string t] w fun e w' => e = .returned (.tuple #[shV (rsQ t.data.toList), .bool (rsQ t.data.toList).isSome]) ∧ Below w.heap.size w w' := by
  have HR := Lib.hid (s_l01NRead t hs)
  have HQ0 := Lib.hid (fun h => rsQ_none (t := t.data.toList) h)
  have HQ1 := Lib.hid (fun ns h hl => rsQ_len (t := t.data.toList) (ns := ns) h hl)
  have HQ2 := Lib.hid (fun a b c d h => rsQ_four (t := t.data.toList) (a := a) (b := b) (c := c) (d := d) h)
  generalize nrQ t.data.toList = q at *
  generalize rsQ t.data.toList = Q at *
  have HB0 := Lib.hid (BK.new w [.float .f32 0, .float .f32 0, .float .f32 0, .float .f32 0] 38)
  have HW0 := Lib.hid (show Below w.heap.size w (w.alloc (.cells #[.float .f32 0, .float .f32 0, .float .f32 0, .float .f32 0] 38)) from (Below.refl _ _).alloc (Nat.le_refl _) _)
  go_enter Tryd.func56, Tryd.ntmps56
  go_wp2_with fail
  refine (HR.out _).mono ?_; rintro e w1 ⟨u, rfl, ho, hb⟩
  have HB1 := Lib.hid (HB0.out.keep hb)
  have HW1 := Lib.hid (HW0.out.trans (hb.mono HW0.out.size))
  have hp1 := HB1.out.lt
  clear hb HB0 HW0
  cases hq : q with
  | none =>
    rw [hq] at ho HQ0
    obtain rfl : u = .slice none 0 0 := ho
    have HQ := Lib.hid (HQ0.out rfl)
    go_wp2_with (refine wpList_storeAgg (us := [.float .f32 0, .float .f32 0, .float .f32 0, .float .f32 0]) (storeSh _ _ _ _ _ _) rfl rfl (by simp [Value.oneCell']) HB1.out (by simp) ?_; intro W hE hO hL hZ hG; have HW2 := Lib.hid (hL _ _ HW1.out (by omega)); simp [setsAt] at hE; have hce := hE.cells; clear hO hL hG)
    (try simp only [Exit.inBlock, Exit.then])
    refine bodyPost_ret (by simp [results, Tryd.results56, go_sem, hce]; try rfl) rfl ⟨?_, HW2.out⟩
    rw [HQ.out]; rfl
  | some ns =>
    rw [hq] at ho HQ1 HQ2
    by_cases h4 : ns.length = 4
    · obtain ⟨a, b, c, d, rfl⟩ := four_of h4
      have HQ := Lib.hid (HQ2.out a b c d rfl)
      have HSH := Lib.hid (fun p => s_l04Shares0 p a b c d)
      generalize sharesB (cn .f32 a) (cn .f32 b) (cn .f32 c) (cn .f32 d) = B at HQ HSH
      obtain ⟨g, cp, rfl⟩ := ho.addr (by simp)
      have hcl := ho.gl.cells
      have e0 := hcl 0 _ rfl
      have e1 := hcl 1 _ rfl
      have e2 := hcl 2 _ rfl
      have e3 := hcl 3 _ rfl
      simp only [Nat.zero_add] at e0 e1 e2 e3
      clear hcl h4
      have m0 := World.new_ne _ _ e0
      have m1 := World.new_ne _ _ e1
      have m2 := World.new_ne _ _ e2
      have m3 := World.new_ne _ _ e3
      go_wp2_with fail
      go_region_held3 (fun W => W.cell? ⟨g, 0, none⟩ = some (.float .f32 a) ∧ W.cell? ⟨g, 1, none⟩ = some (.float .f32 b) ∧ W.cell? ⟨g, 2, none⟩ = some (.float .f32 c) ∧ W.cell? ⟨g, 3, none⟩ = some (.float .f32 d)) (first | (simp; done) | (simp [*]; done) | go_keep) (first | fail)
      have HE := Lib.hid ((BK.new w1 [.float .f32 a, .float .f32 b, .float .f32 c, .float .f32 d] 38).drew)
      have HB2 := Lib.hid ((HB1.out.alloc (.cells [.float .f32 a, .float .f32 b, .float .f32 c, .float .f32 d].toArray 38)).drew)
      have HW2 := Lib.hid (Below.drew (HW1.out.alloc HW1.out.size (.cells [.float .f32 a, .float .f32 b, .float .f32 c, .float .f32 d].toArray 38)))
      go_wp2_with fail
      have hne : w.heap.size ≠ w1.heap.size := by omega
      generalize (w1.alloc (.cells #[.float .f32 a, .float .f32 b, .float .f32 c, .float .f32 d] 38)).drew = w2 at *
      generalize w1.heap.size = p at *
      refine (HSH.out p _ (HE.out.at rfl) (HE.out.at rfl) (HE.out.at rfl) (HE.out.at rfl)).mono ?_; rintro e w3 ⟨rfl, hd⟩
      have hb := hd.below w2.heap.size
      have HE3 := Lib.hid (HE.out.keep hb)
      have HB3 := Lib.hid (HB2.out.keep hb)
      have HW3 := Lib.hid (HW2.out.trans (hb.mono HW2.out.size))
      have hp3 := HB3.out.lt
      have hx0 := HE3.out.at (i := 0) rfl
      have hx1 := HE3.out.at (i := 1) rfl
      have hx2 := HE3.out.at (i := 2) rfl
      have hx3 := HE3.out.at (i := 3) rfl
      clear hd hb HE HB2 HW2 HB1 HW1 e0 e1 e2 e3 m0 m1 m2 m3 ho
      cases B with
      | false =>
        go_wp2_with (refine wpList_storeAgg (us := [.float .f32 0, .float .f32 0, .float .f32 0, .float .f32 0]) (storeSh _ _ _ _ _ _) rfl rfl (by simp [Value.oneCell']) HB3.out (by simp) ?_; intro W hE hO hL hZ hG; have HW4 := Lib.hid (hL _ _ HW3.out (by omega)); simp [setsAt] at hE; have hce := hE.cells; clear hO hL hG)
        (try simp only [Exit.inBlock, Exit.then])
        refine bodyPost_ret (by simp [results, Tryd.results56, go_sem, hce]; try rfl) rfl ⟨?_, HW4.out⟩
        rw [HQ.out]; rfl
      | true =>
        go_wp2_with (refine wpList_storeAgg (us := [.float .f32 a, .float .f32 b, .float .f32 c, .float .f32 d]) (storeSh _ _ _ _ _ _) rfl rfl (by simp [Value.oneCell']) HB3.out (by simp) ?_; intro W hE hO hL hZ hG; have HW4 := Lib.hid (hL _ _ HW3.out (by omega)); simp [setsAt] at hE; have hce := hE.cells; clear hO hL hG)
        (try simp only [Exit.inBlock, Exit.then])
        refine bodyPost_ret (by simp [results, Tryd.results56, go_sem, hce]; try rfl) rfl ⟨?_, HW4.out⟩
        rw [HQ.out]; rfl
    · have HQ := Lib.hid (HQ1.out ns rfl h4)
      have hlu : lenOf u = ns.length := lenOf_go ho
      rcases ho.2 with ⟨rfl, e4⟩ | ⟨g, cp, cur, rfl, -, -, -⟩
      · go_wp2_with (refine wpList_storeAgg (us := [.float .f32 0, .float .f32 0, .float .f32 0, .float .f32 0]) (storeSh _ _ _ _ _ _) rfl rfl (by simp [Value.oneCell']) HB1.out (by simp) ?_; intro W hE hO hL hZ hG; have HW2 := Lib.hid (hL _ _ HW1.out (by omega)); simp [setsAt] at hE; have hce := hE.cells; clear hO hL hG)
        (try simp only [Exit.inBlock, Exit.then])
        refine bodyPost_ret (by simp [results, Tryd.results56, go_sem, hce]; try rfl) rfl ⟨?_, HW2.out⟩
        rw [HQ.out]; rfl
      · have hn4 : ¬ (ns.length : Int) = 4 := by omega
        have hb4 : ((ns.length : Int) != 4) = true := by simp only [bne_iff_ne, ne_eq]; omega
        go_wp2_with (refine wpList_storeAgg (us := [.float .f32 0, .float .f32 0, .float .f32 0, .float .f32 0]) (storeSh _ _ _ _ _ _) rfl rfl (by simp [Value.oneCell']) HB1.out (by simp) ?_; intro W hE hO hL hZ hG; have HW2 := Lib.hid (hL _ _ HW1.out (by omega)); simp [setsAt] at hE; have hce := hE.cells; clear hO hL hG)
        (try simp only [Exit.inBlock, Exit.then])
        refine bodyPost_ret (by simp [results, Tryd.results56, go_sem, hce]; try rfl) rfl ⟨?_, HW2.out⟩
        rw [HQ.out]; rfl

theorem s_ReadShares (t : ByteArray) (hs : t.size ≤ 1000000000) (w : World) :
    Calls Tryd.prog 28 #[.string t] w fun e w' => e = .returned (.tuple #[shV (rsQ t.data.toList), .bool (rsQ t.data.toList).isSome]) ∧ Below w.heap.size w w' := by
  have HR := Lib.hid (s_l08ReadShares t hs)
  generalize rsQ t.data.toList = Q at *
  generalize hv : shV Q = v at *
  have HV := Lib.hid (show ∃ a b c d, v = .agg #[.float .f32 a, .float .f32 b, .float .f32 c, .float .f32 d] by
    subst hv
    cases Q with
    | none => exact ⟨0, 0, 0, 0, rfl⟩
    | some q => obtain ⟨a, b, c, d⟩ := q; exact ⟨a, b, c, d, rfl⟩)
  obtain ⟨a, b, c, d, rfl⟩ := HV.out
  clear hv HV
  have HB0 := Lib.hid (BK.new w [.float .f32 0, .float .f32 0, .float .f32 0, .float .f32 0] 38)
  have HW0 := Lib.hid (show Below w.heap.size w (w.alloc (.cells #[.float .f32 0, .float .f32 0, .float .f32 0, .float .f32 0] 38)) from (Below.refl _ _).alloc (Nat.le_refl _) _)
  go_enter Tryd.func28, Tryd.ntmps28
  go_wp2_with fail
  refine (HR.out _).mono ?_; rintro e w1 ⟨rfl, hb⟩
  have HB1 := Lib.hid (HB0.out.keep hb)
  have HW1 := Lib.hid (HW0.out.trans (hb.mono HW0.out.size))
  have hp1 := HB1.out.lt
  clear hb HB0 HW0
  go_wp2_with (refine wpList_storeAgg (us := [.float .f32 a, .float .f32 b, .float .f32 c, .float .f32 d]) (storeSh _ _ _ _ _ _) rfl rfl (by simp [Value.oneCell']) HB1.out (by simp) ?_; intro W hE hO hL hZ hG; have HW2 := Lib.hid (hL _ _ HW1.out (by omega)); simp [setsAt] at hE; have hce := hE.cells; clear hO hL hG)
  (try simp only [Exit.inBlock, Exit.then])
  refine bodyPost_ret (by simp [results, Tryd.results28, go_sem, hce]; try rfl) rfl ⟨rfl, HW2.out⟩

end Go.Proofs.YtebahccjaieajaaDoor
