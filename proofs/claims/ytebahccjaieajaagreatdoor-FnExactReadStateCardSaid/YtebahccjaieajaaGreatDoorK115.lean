/- Contracts: numbers read, by the reference: l01NRead. -/
import Derived.Test.YtebahccjaieajaaGreatDoorK113
import Derived.Test.YtebahccjaieajaaGreatDoorK103
import Derived.Test.YtebahccjaieajaaGreatDoorK93
namespace Go.Proofs.YtebahccjaieajaaGreatDoor
set_option linter.unusedSimpArgs false
set_option linter.unusedVariables false
set_option maxRecDepth 100000
set_option maxHeartbeats 4000000
open Go.RowKit
attribute [local go_sem] run_store_float run_store_complex alloc_drewN setCell_drewN

/-- Slices of other elements lie in other blocks. -/
theorem GO.ne {α β : Type} {inj : α → Value} {inj' : β → Value} {T T' b b' : Nat} {w : World} {u v : Value} {xs : List α} {ys : List β} (h : GO inj T b w u xs) (h' : GO inj' T' b' w v ys) (hne : T ≠ T') : u.ownBlock = none ∨ u.ownBlock ≠ v.ownBlock := by
  rcases h.2 with ⟨rfl, -⟩ | ⟨g, cap, cur, rfl, -, hg, -⟩
  · exact .inl rfl
  · rcases h'.2 with ⟨rfl, -⟩ | ⟨g2, cap2, cur2, rfl, -, hg2, -⟩
    · exact .inr (by simp [Value.ownBlock])
    · refine .inr fun e => ?_
      have e2 : g = g2 := by simpa [Value.ownBlock] using e
      subst e2
      rw [hg] at hg2
      simp only [Option.some.injEq, Obj.cells.injEq] at hg2
      exact hne hg2.2.1
theorem f32V_one (n : Nat) : (Value.float .f32 n).oneCell' = true := rfl
def NRes (T lo : Nat) (w : World) (u : Value) : Option (List Nat) → Prop
  | none => u = .slice none 0 0
  | some ns => GO (Value.float .f32) T lo w u ns
theorem rdN_append : ∀ (a : Nat) (u v : List UInt8), rdN a (u ++ v) = (rdN a u).bind fun r => rdN r v
  | a, [], v => rfl
  | a, b :: u, v => by
    rw [List.cons_append, rdN, rdN]
    cases hv b with
    | none => rfl
    | some d => exact rdN_append (16 * a + d) u v
theorem rdN_take_none {l : List UInt8} {q : Nat} (h : rdN 0 (l.take q) = none) : rdN 0 l = none := by
  rw [← List.take_append_drop q l, rdN_append, h]; rfl
theorem rdN_step {l : List UInt8} {q m : Nat} (hq : q < l.length) (h : rdN 0 (l.take q) = some m) : rdN 0 (l.take (q + 1)) = (hv l[q]).map fun d => 16 * m + d := by
  rw [List.take_succ_eq_append_getElem hq, rdN_snoc, h]; rfl
theorem rdN_small {l : List UInt8} {q m : Nat} (hq : q ≤ l.length) (hl : l.length = 8) (h : rdN 0 (l.take q) = some m) : m < 4294967296 := by
  have h1 := (hexM_of_rdN q _ m (by rw [List.length_take]; omega) h).1
  have h2 : 16 ^ q ≤ 16 ^ 8 := Nat.pow_le_pow_right (by decide) (by omega)
  have h3 : (16 : Nat) ^ 8 = 4294967296 := by decide
  omega

theorem c_Float32frombits (n : Nat) (w : World) : Sem.run Tryz.prog (callFunc 39 #[.int .u32 (n : Int)]) w = .ok (.value (.float .f32 n)) w := by kernel_rfl
theorem s_l01From0 (n : Nat) (hn : n < 4294967296) (w : World) :
    Calls Tryz.prog 30 #[.int .i64 (n : Int)] w fun e w' => e = .returned (.float .f32 n) ∧ Dr w w' := by
  have h1 : IntKind.u32.wrap (n : Int) = (n : Int) := by rw [IntKind.wrap_u32]; omega
  have hb := c_Float32frombits
  go_enter Tryz.func30, Tryz.ntmps30
  go_wp2_with fail
  go_ret
  exact ⟨rfl, Dr.refl _⟩

theorem oneF32S : OneC Tryz.prog 23 22 (.float .f32 0) 4 := oneC_of Tryz.underlying23 (by kernel_rfl) rfl (by decide)
theorem s_l01NRead (t : ByteArray) (hs : t.size ≤ 1000000000) (w : World) :
    Calls Tryz.prog 19 #[.string t] w fun e w' => ∃ u, e = .returned (.tuple #[u, .bool (nrQ t.data.toList).isSome]) ∧ NRes 22 w.heap.size w' u (nrQ t.data.toList) ∧ Below w.heap.size w w' := by
  by_cases ht : t = tx [110, 111, 110, 101]
  · subst ht
    have HQ := Lib.hid (show nrQ (tx [110, 111, 110, 101]).data.toList = some [] by rw [tx_data]; rfl)
    have e1 : (tx [110, 111, 110, 101]).toList = [110, 111, 110, 101] := by rw [ByteArray.toList_eq, tx_data]
    generalize tx [110, 111, 110, 101] = t at *
    generalize nrQ t.data.toList = Q at HQ ⊢
    have HG := Lib.hid (GO.empty (inj := Value.float .f32) 22 w rfl (Nat.le_refl w.heap.size))
    go_enter Tryz.func19, Tryz.ntmps19
    go_wp2_with fail
    go_ret2
    exact ⟨_, by rw [HQ.out]; rfl, by rw [HQ.out]; exact HG.out, (Below.refl _ _).alloc (Nat.le_refl _) _⟩
  have e1 := str_ne3 ht
  have e2 := str_ne4 ht
  have hne : t.data.toList ≠ [110, 111, 110, 101] := fun e => ht (by rw [← data_tx t, e])
  have HQ := Lib.hid (show nrQ t.data.toList = if (cutC 44 t.data.toList).length ≤ 256 then pcAll (cutC 44 t.data.toList) else none by rw [nrQ, if_neg hne])
  have HL := Lib.hid (show (cutB 44 t).length = (cutC 44 t.data.toList).length from List.length_map ..)
  have HCB := Lib.hid (show cutB 44 t = (cutC 44 t.data.toList).map tx from rfl)
  have HCT := Lib.hid (s_l01Cut t 44 hs)
  generalize nrQ t.data.toList = Q at HQ ⊢
  generalize cutB 44 t = pb at HL HCB HCT
  generalize cutC 44 t.data.toList = pc at HQ HL HCB
  clear hne ht
  go_enter Tryz.func19, Tryz.ntmps19
  go_wp2_with fail
  refine (HCT.out _).mono ?_; rintro e w1 ⟨u, rfl, ho, hb⟩
  have hbA : Below w.heap.size w (w.alloc (.cells #[] 22)) := (Below.refl _ _).alloc (Nat.le_refl _) _
  have hb1 : Below w.heap.size w w1 := hbA.trans (hb.mono hbA.size)
  have hz1 := hb1.size
  have HE := Lib.hid ((GO.empty (inj := Value.float .f32) 22 w rfl (Nat.le_refl w.heap.size)).keep hb)
  obtain ⟨ao, c, rfl, hlen⟩ := ho.slice
  have HO := Lib.hid ho

  clear hb ho hbA HCT
  by_cases hbig : 256 < pb.length
  · have HF := Lib.hid (show Q = none by rw [HQ.out, if_neg (by have := HL.out; omega)])
    have hbi : (256 : Int) < (pb.length : Int) := by omega
    go_wp2_with fail
    go_ret2
    exact ⟨_, by rw [HF.out]; rfl, by rw [HF.out]; rfl, hb1⟩
  have HF := Lib.hid (show Q = pcAll pc by rw [HQ.out, if_pos (by have := HL.out; omega)])
  have hbi : ¬ (256 : Int) < (pb.length : Int) := by omega
  go_wp2_with fail
  go_loopw [4, 6] (fun o i wr => ∃ (k : Nat) (ns : List Nat), k ≤ pb.length ∧ i = .int .i64 (k : Int) ∧ ns.length = k ∧ Hid (pcAll (pc.take k) = some ns) ∧ Hid (GO (Value.float .f32) 22 w.heap.size wr o ns) ∧ Hid (GO Value.string 9 (w.alloc (.cells #[] 22)).heap.size wr (.slice ao pb.length c) pb) ∧ Below w.heap.size w wr) (fun _ i _ => pb.length - (intOf i).toNat)
  case atStart => exact ⟨0, [], Nat.zero_le _, rfl, rfl, rfl, HE.out, HO.out, hb1⟩
  case round =>
    obtain ⟨k, ns, hk, rfl, hnl, HA, HG, HP, hbr⟩ := hrel
    have hsz := hbr.size
    by_cases hlt : k < pb.length
    · obtain ⟨pbk, pc2, hpv⟩ := HP.out.addr (by intro e; rw [e] at hlt; exact absurd hlt (Nat.not_lt_zero _))
      injection hpv with e3 _ e4
      subst e3 e4
      have hkc : k < pc.length := by have := HL.out; omega
      have hcl := HP.out.gl.cells k _ (List.getElem?_eq_getElem hlt)
      rw [Nat.zero_add] at hcl
      have HX := Lib.hid (show pb[k].data.toList = pc[k] by simp only [HCB.out, List.getElem_map]; exact tx_data _)
      have HST := Lib.hid (pcAll_step hkc HA.out)
      have HNO := Lib.hid (fun (h : pcAll (pc.take (k + 1)) = none) => show Q = none from HF.out.trans (pcAll_take_none h))
      obtain ⟨x, hx⟩ : ∃ x, x = pb[k] := ⟨_, rfl⟩
      obtain ⟨l, hll⟩ : ∃ l, l = pc[k] := ⟨_, rfl⟩
      rw [← hx] at hcl HX
      rw [← hll] at HX HST
      clear hx hll
      have hxs : x.size = l.length := by rw [← HX.out, data_len]
      by_cases h8 : x.size = 8
      · have hl8 : l.length = 8 := by omega
        have HL8 := Lib.hid hl8
        have h8b : ((x.size : Int) != 8) = false := by rw [h8]; rfl
        clear hl8 hxs
        go_wp2_with fail
        obtain ⟨wo, hwo⟩ : ∃ y, y = wr := ⟨_, rfl⟩
        subst hwo
        go_loopw [7, 8] (fun n j wi => ∃ (m q : Nat), q ≤ 8 ∧ j = .int .i64 (q : Int) ∧ n = .int .i64 (m : Int) ∧ m < 4294967296 ∧ Hid (rdN 0 (l.take q) = some m) ∧ wi = wo) (fun _ j _ => 8 - (intOf j).toNat)
        case atStart => exact ⟨0, 0, by decide, rfl, rfl, by decide, rfl, rfl⟩
        case round =>
          obtain ⟨m, q, hq, rfl, rfl, hm, HR, rfl⟩ := hrel
          by_cases hq8 : q < 8
          · have hqx : q < x.size := by omega
            have HB := Lib.hid (show l[q]'(by rw [HL8.out]; exact hq8) = x[q] by rw [← data_at x hqx]; simp only [HX.out])
            have HST2 := Lib.hid (rdN_step (by rw [HL8.out]; exact hq8) HR.out)
            rw [HB.out] at HST2
            have HSM := Lib.hid (fun m' (h : rdN 0 (l.take (q + 1)) = some m') => rdN_small (by rw [HL8.out]; omega) HL8.out h)
            have HNO2 := Lib.hid (fun (h : rdN 0 (l.take (q + 1)) = none) => show Q = none from HNO.out (by rw [HST.out, pcN, if_pos HL8.out, rdN_take_none h]; rfl))
            have hvl := x[q].toNat_lt
            have HVE := Lib.hid (show hv x[q] = if 48 ≤ x[q].toNat ∧ x[q].toNat ≤ 57 then some (x[q].toNat - 48) else if 97 ≤ x[q].toNat ∧ x[q].toNat ≤ 102 then some (x[q].toNat - 87) else none from rfl)
            have hqi : (q : Int) < 8 := by omega
            clear HB
            rcases (show (48 ≤ x[q].toNat ∧ x[q].toNat ≤ 57) ∨ (97 ≤ x[q].toNat ∧ x[q].toNat ≤ 102) ∨ (¬ 48 ≤ x[q].toNat) ∨ (57 < x[q].toNat ∧ x[q].toNat < 97) ∨ 102 < x[q].toNat by omega) with ⟨g1, g2⟩ | ⟨g1, g2⟩ | g1 | ⟨g1, g2⟩ | g1
            · have HD := Lib.hid (show rdN 0 (l.take (q + 1)) = some (16 * m + (x[q].toNat - 48)) by rw [HST2.out, HVE.out, if_pos ⟨g1, g2⟩]; rfl)
              have hsm := HSM.out _ HD.out
              obtain ⟨v, hve⟩ : ∃ v, v = x[q].toNat := ⟨_, rfl⟩
              rw [← hve] at HD hsm g1 g2
              have i1 : (48 : Int) ≤ ((x[q].toNat : Nat) : Int) := by omega
              have i2 : ((x[q].toNat : Nat) : Int) ≤ 57 := by omega
              have i3 : ¬ (97 : Int) ≤ ((x[q].toNat : Nat) : Int) := by omega
              go_wp2_with fail
              exact ⟨⟨16 * m + (v - 48), q + 1, by omega, by go_num, congrArg (Value.int .i64) (by omega), hsm, HD.out, trivial⟩, by simp [intOf]; omega⟩
            · have HD := Lib.hid (show rdN 0 (l.take (q + 1)) = some (16 * m + (x[q].toNat - 87)) by rw [HST2.out, HVE.out, if_neg (by omega), if_pos ⟨g1, g2⟩]; rfl)
              have hsm := HSM.out _ HD.out
              obtain ⟨v, hve⟩ : ∃ v, v = x[q].toNat := ⟨_, rfl⟩
              rw [← hve] at HD hsm g1 g2
              have i0 : (48 : Int) ≤ ((x[q].toNat : Nat) : Int) := by omega
              have i1 : ¬ ((x[q].toNat : Nat) : Int) ≤ 57 := by omega
              have i2 : (97 : Int) ≤ ((x[q].toNat : Nat) : Int) := by omega
              have i3 : ((x[q].toNat : Nat) : Int) ≤ 102 := by omega
              go_wp2_with fail
              exact ⟨⟨16 * m + (v - 87), q + 1, by omega, by go_num, congrArg (Value.int .i64) (by omega), hsm, HD.out, trivial⟩, by simp [intOf]; omega⟩
            · have HD := Lib.hid (HNO2.out (by rw [HST2.out, HVE.out, if_neg (by omega), if_neg (by omega)]; rfl))
              have j0 : ¬ (48 : Int) ≤ ((x[q].toNat : Nat) : Int) := by omega
              have j1 : ¬ (97 : Int) ≤ ((x[q].toNat : Nat) : Int) := by omega
              go_wp2_with fail
              go_ret2
              exact ⟨_, by rw [HD.out]; rfl, by rw [HD.out]; rfl, hbr⟩
            · have HD := Lib.hid (HNO2.out (by rw [HST2.out, HVE.out, if_neg (by omega), if_neg (by omega)]; rfl))
              have j0 : (48 : Int) ≤ ((x[q].toNat : Nat) : Int) := by omega
              have j1 : ¬ ((x[q].toNat : Nat) : Int) ≤ 57 := by omega
              have j2 : ¬ (97 : Int) ≤ ((x[q].toNat : Nat) : Int) := by omega
              go_wp2_with fail
              go_ret2
              exact ⟨_, by rw [HD.out]; rfl, by rw [HD.out]; rfl, hbr⟩
            · have HD := Lib.hid (HNO2.out (by rw [HST2.out, HVE.out, if_neg (by omega), if_neg (by omega)]; rfl))
              have j0 : (48 : Int) ≤ ((x[q].toNat : Nat) : Int) := by omega
              have j1 : ¬ ((x[q].toNat : Nat) : Int) ≤ 57 := by omega
              have j2 : (97 : Int) ≤ ((x[q].toNat : Nat) : Int) := by omega
              have j3 : ¬ ((x[q].toNat : Nat) : Int) ≤ 102 := by omega
              go_wp2_with fail
              go_ret2
              exact ⟨_, by rw [HD.out]; rfl, by rw [HD.out]; rfl, hbr⟩
          · have hq9 : q = 8 := by omega
            have HR8 := Lib.hid (show rdN 0 l = some m by rw [← HR.out, hq9, List.take_of_length_le (by rw [HL8.out]; omega)])
            have hqn : ¬ (q : Int) < 8 := by omega
            have HF8 := Lib.hid (s_l01From0 m hm)
            have HB8 := Lib.hid (s_l01Bits m hm)
            go_wp2_with fail
            refine (HF8.out _).mono ?_; rintro e w3 ⟨rfl, hd⟩
            have hb3 := hd.below wr.heap.size
            go_wp2_with fail
            refine (HB8.out _).mono ?_; rintro e w4 ⟨rfl, hd4⟩
            have hb4 := hb3.trans (hd4.below wr.heap.size)
            have HG4 := Lib.hid (HG.out.keep hb4)
            have HP4 := Lib.hid (HP.out.keep hb4)
            have hbr4 := hbr.trans (hb4.mono hsz)
            have hsz4 := hbr4.size
            clear hd hd4 hb3 hb4 hcl HG HP
            by_cases hcm : cn .f32 m = m
            · have HN := Lib.hid (show pcAll (pc.take (k + 1)) = some (ns ++ [m]) by
                rw [HST.out, pcN, if_pos HL8.out, HR8.out]
                show Option.map _ (if cn .f32 m = m then some m else none) = _
                rw [if_pos hcm]; rfl)
              rw [hcm]
              go_wp2_with (at_builtin; refine wpList_gapp (inj := Value.float .f32) oneF32S f32V_one w.heap.size _ _ rfl (GO.alloc HG4.out _) [m] _ 1 rfl rfl (by intro i u hu; cases i with | zero => (simp only [List.getElem?_cons_zero, Option.some.injEq] at hu; subst hu; simp) | succ i => simp at hu) (by simp only [List.length_cons, List.length_nil]; omega) (by simp; omega) ?_; intro v2 w5 hown2 hg2; have HO2 := Lib.hid hown2; have HG2 := Lib.hid hg2; clear hown2 hg2)
              have HP5 := Lib.hid (GO.kept (GO.alloc HP4.out _) HG2.out (GO.ne (GO.alloc HP4.out (.cells #[.float .f32 m] 22)) (GO.alloc HG4.out (.cells #[.float .f32 m] 22)) (by decide)))
              exact ⟨⟨k + 1, ns ++ [m], by omega, by go_num, by simp [hnl], HN.out, HO2.out, HP5.out, (hbr4.alloc hsz4 _).grown HG2.out (by simp; omega) HG4.out.own_ge⟩, by simp [intOf]; omega⟩
            · have HF9 := Lib.hid (HNO.out (by
                rw [HST.out, pcN, if_pos HL8.out, HR8.out]
                show Option.map _ (if cn .f32 m = m then some m else none) = _
                rw [if_neg hcm]; rfl))
              have hcb : (((cn .f32 m : Nat) : Int) != (m : Int)) = true := by simp only [bne_iff_ne, ne_eq]; omega
              have hcc : ¬ ((cn .f32 m : Nat) : Int) = (m : Int) := by omega
              go_wp2_with fail
              go_ret2
              exact ⟨_, by rw [HF9.out]; rfl, by rw [HF9.out]; rfl, hbr4⟩
      · have HP0 := Lib.hid (show pcN l = none by rw [pcN, if_neg (by omega)])
        have HF2 := Lib.hid (HNO.out (by rw [HST.out, HP0.out]; rfl))
        have h8b : ((x.size : Int) != 8) = true := by simp only [bne_iff_ne, ne_eq]; omega
        have h8c : ¬ (x.size : Int) = 8 := by omega
        clear hxs
        go_wp2_with fail
        go_ret2
        exact ⟨_, by rw [HF2.out]; rfl, by rw [HF2.out]; rfl, hbr⟩
    · have hkn : k = pb.length := by omega
      have HF2 := Lib.hid (show Q = some ns by
        rw [HF.out, ← HA.out, List.take_of_length_le (by have := HL.out; omega)])
      have hng : ¬ ((k : Int) < (pb.length : Int)) := by omega
      clear hkn
      go_wp2_with fail
      go_ret2
      exact ⟨_, by rw [HF2.out]; rfl, by rw [HF2.out]; exact HG.out, hbr⟩

end Go.Proofs.YtebahccjaieajaaGreatDoor
