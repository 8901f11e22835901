/- Contracts: a number out of eight hexadecimal digits, by the library: ParseUint at base 16 and 32 bits; readHex. -/
import Derived.Test.YtebahccjaieajaaGreatDoorK105
import Derived.Test.YtebahccjaieajaaGreatDoorK115
import Derived.Lib.ConvBytes
import Derived.Lib.ParseIntBMem
import Derived.Laws.Strings3
import Derived.Laws.Closers25
import Derived.Laws.Closers25b
import Derived.BigCall
import Derived.BigGuard
namespace Go.Proofs.YtebahccjaieajaaGreatDoor
set_option linter.unusedSimpArgs false
set_option linter.unusedVariables false
set_option maxRecDepth 100000
set_option maxHeartbeats 4000000
open Go.RowKit
attribute [local go_sem] run_store_float run_store_complex alloc_drewN setCell_drewN

theorem join8_inj : ∀ {xs ys : List (List UInt8)}, xs.length = ys.length → (∀ l ∈ xs, l.length = 8) → (∀ l ∈ ys, l.length = 8) → Lib.join xs [44] = Lib.join ys [44] → xs = ys
  | [], [], _, _, _, _ => rfl
  | x :: xs, y :: ys, hl, hx, hy, h => by
    rw [Lib.join_cons, Lib.join_cons] at h
    have h8 : x.length = y.length := (hx x (by simp)).trans (hy y (by simp)).symm
    obtain ⟨h1, h2⟩ := List.append_inj h h8
    subst h1
    congr 1
    have hl2 : xs.length = ys.length := by simpa using hl
    cases xs with
    | nil => cases ys with
      | nil => rfl
      | cons y ys => cases hl2
    | cons a xs => cases ys with
      | nil => cases hl2
      | cons b ys =>
        refine join8_inj hl2 (fun l hm => hx l (List.mem_cons_of_mem _ hm)) (fun l hm => hy l (List.mem_cons_of_mem _ hm)) ?_
        rw [Lib.join_cons, Lib.join_cons]
        have h3 : ([44] ++ a) ++ Lib.joinTail [44] xs = ([44] ++ b) ++ Lib.joinTail [44] ys := h2
        simpa using h3
theorem join_cut (t : List UInt8) : Lib.join (cutC 44 t) [44] = t := cutC_join 44 t
/-- The pieces that the program reads. -/
def irPs (t : List UInt8) : List (List UInt8) := if t = [110, 111, 110, 101] then [] else cutC 44 t
/-- What the program reads, given what it makes of a piece. -/
def irQ (ph : List UInt8 → Nat) (t : List UInt8) : Option (List Nat) :=
  if (irPs t).length ≤ 256 ∧ (∀ l ∈ irPs t, l.length = 8) ∧ hxAll (((irPs t).map ph).map (cn .f32)) = t then some ((irPs t).map ph) else none
theorem pcAll_all {ph : List UInt8 → Nat} : ∀ {r : List (List UInt8)}, (∀ l ∈ r, pcN l = some (ph l)) → pcAll r = some (r.map ph)
  | [], _ => rfl
  | l :: r, h => by
    rw [pcAll, h l (by simp), pcAll_all (fun x hx => h x (by simp [hx]))]
    rfl
theorem pcAll_some {ns : List Nat} : ∀ {r : List (List UInt8)}, pcAll r = some ns → ∀ l ∈ r, ∃ n, pcN l = some n
  | [], _, l, hl => by cases hl
  | x :: r, h, l, hl => by
    rw [pcAll] at h
    cases hx : pcN x with
    | none => rw [hx] at h; cases h
    | some n =>
      rw [hx] at h
      cases hr : pcAll r with
      | none => rw [hr] at h; cases h
      | some ms =>
        rcases List.mem_cons.1 hl with e | e
        · exact ⟨n, by rw [e, hx]⟩
        · exact pcAll_some hr l e
theorem pcN_some {l : List UInt8} {n : Nat} (h : pcN l = some n) : l.length = 8 ∧ n < 4294967296 ∧ hex8 n = l ∧ cn .f32 n = n := by
  rw [pcN] at h
  split at h
  · rename_i h8
    cases hr : rdN 0 l with
    | none => rw [hr] at h; cases h
    | some m =>
      rw [hr] at h
      have h' : (if cn .f32 m = m then some m else none) = some n := h
      split at h'
      · rename_i hc
        injection h' with h'
        subst h'
        obtain ⟨h1, h2⟩ := hex8_rd8 h8 hr
        exact ⟨h8, h1, h2, hc⟩
      · cases h'
  · cases h
theorem irQ_eq (ph : List UInt8 → Nat) (hph : ∀ n, n < 4294967296 → ph (hex8 n) = n) (hlt : ∀ l, ph l < 4294967296) (t : List UInt8) : irQ ph t = nrQ t := by
  by_cases hn : t = [110, 111, 110, 101]
  · rw [irQ, nrQ, if_pos hn, irPs, if_pos hn, if_pos]
    · rfl
    · refine ⟨by simp, by simp, ?_⟩
      rw [hn]; rfl
  · have hne : cutC 44 t ≠ [] := cutC_ne 44 t
    rw [irQ, nrQ, if_neg hn, irPs, if_neg hn]
    have hj := join_cut t
    generalize cutC 44 t = ps at *
    by_cases hl : ps.length ≤ 256
    · rw [if_pos hl]
      have hmne : (ps.map ph).map (cn .f32) ≠ [] := by simpa using hne
      by_cases hx : (∀ l ∈ ps, l.length = 8) ∧ hxAll ((ps.map ph).map (cn .f32)) = t
      · rw [if_pos ⟨hl, hx⟩]
        obtain ⟨h8, ht⟩ := hx
        rw [hxAll_join hmne] at ht
        have e := join8_inj (by simp) (fun l hm => by
          obtain ⟨c, _, rfl⟩ := List.mem_map.1 hm
          exact hex8_len c) h8 (ht.trans hj.symm)
        refine (pcAll_all fun l hm => ?_).symm
        have hk : l = hex8 (cn .f32 (ph l)) := by
          rw [List.map_map, List.map_map] at e
          obtain ⟨i, hi, rfl⟩ := List.getElem_of_mem hm
          have := List.getElem_map ((hex8 ∘ cn .f32) ∘ ph) (l := ps) (i := i) (h := by simpa using hi)
          have e2 : (List.map ((hex8 ∘ cn .f32) ∘ ph) ps)[i]'(by simpa using hi) = ps[i] := by simp only [e]
          rw [this] at e2
          exact e2.symm
        have hc : cn .f32 (ph l) < 4294967296 := cn_lt (hlt l)
        have hp : ph l = cn .f32 (ph l) := by
          have := hph _ hc
          rw [← hk] at this
          exact this
        rw [pcN, if_pos (h8 l hm), hk, rd8_hex8 hc]
        show (if _ then some _ else none) = _
        rw [← hk, ← hp, if_pos hp.symm]
      · rw [if_neg (fun h => hx h.2)]
        cases hp : pcAll ps with
        | none => rfl
        | some ns =>
          exfalso
          apply hx
          have hall := pcAll_some hp
          refine ⟨fun l hm => ?_, ?_⟩
          · obtain ⟨n, h⟩ := hall l hm
            exact (pcN_some h).1
          · rw [hxAll_join hmne]
            have e : ((ps.map ph).map (cn .f32)).map hex8 = ps := by
              rw [List.map_map, List.map_map]
              refine (List.map_congr_left fun l hm => ?_).trans (List.map_id ps)
              obtain ⟨n, h⟩ := hall l hm
              obtain ⟨_, h2, h3, h4⟩ := pcN_some h
              show hex8 (cn .f32 (ph l)) = l
              rw [← h3, hph n h2, h4]
            rw [e, hj]
    · rw [if_neg hl, if_neg (fun h => hl h.1)]
def lowN (b : UInt8) : Nat := b.toNat ||| 32
def hvU (b : UInt8) : Option Nat := if 48 ≤ b.toNat ∧ b.toNat ≤ 57 then some (b.toNat - 48) else if 97 ≤ lowN b ∧ lowN b ≤ 102 then some (lowN b - 87) else none
theorem low_bits : ∀ c : Fin 256, bits .or .u8 (c.val : Int) 32 = ((c.val ||| 32 : Nat) : Int) ∧ (c.val ||| 32) < 256 := by decide +kernel
theorem low_u8 (b : UInt8) : bits .or .u8 (b.toNat : Int) 32 = (lowN b : Int) ∧ lowN b < 256 := low_bits ⟨b.toNat, b.toNat_lt⟩
theorem hvU_hv : ∀ {b : UInt8} {d : Nat}, hv b = some d → hvU b = some d := by
  intro b d h
  rw [hv] at h
  rw [hvU]
  split at h
  · rename_i h1; rw [if_pos h1]; exact h
  · rename_i h1
    rw [if_neg h1]
    split at h
    · rename_i h2
      have e : ∀ c : Fin 256, 97 ≤ c.val ∧ c.val ≤ 102 → (c.val ||| 32) = c.val := by decide +kernel
      have := e ⟨b.toNat, b.toNat_lt⟩ h2
      rw [lowN, this, if_pos h2]
      exact h
    · cases h
theorem hvU_lt {b : UInt8} {d : Nat} (h : hvU b = some d) : d < 16 := by
  rw [hvU] at h
  split at h
  · injection h; omega
  · split at h
    · injection h; omega
    · cases h
/-- The number with these digits of either case, behind another one. -/
def rdU : Nat → List UInt8 → Option Nat
  | acc, [] => some acc
  | acc, b :: l => (hvU b).bind fun d => rdU (16 * acc + d) l
theorem rdU_rdN : ∀ (l : List UInt8) (a n : Nat), rdN a l = some n → rdU a l = some n
  | [], a, n, h => h
  | b :: l, a, n, h => by
    rw [rdN] at h
    rw [rdU]
    cases hb : hv b with
    | none => rw [hb] at h; cases h
    | some d =>
      rw [hb] at h
      rw [hvU_hv hb]
      exact rdU_rdN l _ n h
theorem rdU_lt : ∀ (l : List UInt8) (a k n : Nat), a < 16 ^ k → rdU a l = some n → n < 16 ^ (k + l.length)
  | [], a, k, n, ha, h => by injection h with h; subst h; exact ha
  | b :: l, a, k, n, ha, h => by
    rw [rdU] at h
    cases hb : hvU b with
    | none => rw [hb] at h; cases h
    | some d =>
      rw [hb] at h
      have hd := hvU_lt hb
      have := rdU_lt l (16 * a + d) (k + 1) n (by rw [Nat.pow_succ]; omega) h
      rw [List.length_cons, show k + (l.length + 1) = k + 1 + l.length by omega]
      exact this
/-- What the program makes of a piece. -/
def phU (l : List UInt8) : Nat := if l.length = 8 then (rdU 0 l).getD 0 else 0
theorem phU_lt (l : List UInt8) : phU l < 4294967296 := by
  rw [phU]
  split
  · rename_i h
    cases hr : rdU 0 l with
    | none => exact (by decide : (0 : Nat) < 4294967296)
    | some n =>
      have := rdU_lt l 0 0 n (by decide) hr
      rw [h] at this
      exact this
  · decide
theorem phU_hex8 (n : Nat) (h : n < 4294967296) : phU (hex8 n) = n := by
  rw [phU, if_pos (hex8_len n), rdU_rdN _ _ _ (rd8_hex8 h)]
  rfl
/-- How ParseUint ends. -/
def pu16 (T : Nat) : Option Nat → Value
  | some n => .tuple #[.int .u64 (n : Int), .nilIface]
  | none => .tuple #[.int .u64 0, .iface T (.int .i64 2)]
theorem low95 : ∀ c : Fin 256, 97 ≤ (c.val ||| 32) → (c.val ||| 32) ≤ 122 → c.val ≠ 95 := by decide +kernel

theorem f_lower (c : UInt8) (w : World) : Calls Tryz.prog 71 #[.int .u8 (c.toNat : Int)] w fun e w' => e = .returned (.int .u8 (lowN c : Int)) ∧ w' = w := by
  obtain ⟨hlow, hl256⟩ := low_u8 c
  go_enter Tryz.func71, Tryz.ntmps71
  go_wp2_with fail
  go_ret
  exact ⟨rfl, rfl⟩
theorem f_lower95 (w : World) : Calls Tryz.prog 71 #[.int .u8 95] w fun e w' => e = .returned (.int .u8 127) ∧ w' = w := f_lower 95 w

theorem f_ParseUint16 (t : ByteArray) (h8 : t.size = 8) (w : World) :
    Calls Tryz.prog 54 #[.string t, .int .i64 16, .int .i64 32] w fun e w' => e = .returned (pu16 82 (rdU 0 t.data.toList)) ∧ Below w.heap.size w w' := by
  have hemp : t.toList.isEmpty = false := by
    rw [← decide_eq_emptyBytes]
    exact decide_eq_false (fun h => by rw [h] at h8; exact absurd h8 (by decide))
  have hcv := Lib.run_convert_string_bytes (P := Tryz.prog) w 9 73 5 t (u := .string) Tryz.underlying9 Tryz.underlying73 Tryz.underlying5
  have hB : ∀ j, j < t.size → (Lib.bytesWorld w 5 t).cell? ⟨w.heap.size, j, none⟩ = some (.int .u8 (t.data.toList.getD j 0).toNat) := fun j hj => Lib.bytesWorld_cell w 5 t j hj
  have HBW := Lib.hid (Lib.bytesWorld_below w 5 t)
  obtain ⟨W1, hW1⟩ : ∃ W1, W1 = Lib.bytesWorld w 5 t := ⟨_, rfl⟩
  rw [← hW1] at hcv hB HBW
  clear hW1
  have hmv : IntKind.u64.wrap (IntKind.u64.wrap 4294967296 - 1) = 4294967295 := by
    rw [IntKind.wrap_u64, IntKind.wrap_u64]
    decide
  obtain ⟨bs, hL⟩ : ∃ bs, bs = t.data.toList := ⟨_, rfl⟩
  have hLn : bs.length = 8 := by rw [hL, Lib.size_eq] at *; exact h8
  rw [← hL] at hB ⊢
  clear hL
  rw [h8] at hcv hB
  go_enter Tryz.func54, Tryz.ntmps54
  go_wp2_with fail
  go_loop [12, 13, 101] (fun vu vn vi => ∃ (k acc : Nat) (a : Int), vu = .bool false ∧ vn = .int .u64 a ∧ vi = .int .i64 (k : Int) ∧ k ≤ 8 ∧ Hid (a = (acc : Int) ∧ acc < 16 ^ k ∧ rdU 0 bs = rdU acc (bs.drop k)))
    (fun _ _ vi => 8 - (intOf vi).toNat)
  case atStart => exact ⟨0, 0, 0, rfl, rfl, rfl, by omega, rfl, by decide, rfl⟩
  case round =>
    obtain ⟨k, acc, a, rfl, rfl, rfl, hk, hh⟩ := hrel
    obtain ⟨ha, hacc, hdec⟩ := hh.out
    clear hh
    by_cases hkn : k < 8
    · have hc := hB k hkn
      have hp7 : 16 ^ k ≤ 16 ^ 7 := Nat.pow_le_pow_right (by decide) (by omega)
      have hp7' : (16 : Nat) ^ 7 = 268435456 := by decide
      have a0 : 0 ≤ a := by omega
      have a1 : a < 268435456 := by omega
      have hdrop : bs.drop k = bs[k]'(by omega) :: bs.drop (k + 1) := List.drop_eq_getElem_cons (by omega)
      have hget : bs.getD k 0 = bs[k]'(by omega) := by simp [List.getD, List.getElem?_eq_getElem (show k < bs.length by omega)]
      rw [hdrop] at hdec
      rw [hget] at hc
      generalize bs[k]'(by omega) = c at hc hdec
      have hpk := Nat.pow_succ (n := 16) (m := k)
      have hki : (k : Int) < 8 := by omega
      obtain ⟨hlow, hl256⟩ := low_u8 c
      have hc256 : c.toNat < 256 := c.toNat_lt
      have hLW := Lib.hid (hvU.eq_1 c)
      have hRD := Lib.hid (rdU.eq_2 acc c (bs.drop (k + 1)))
      have H95 := Lib.hid (low95 ⟨c.toNat, c.toNat_lt⟩)
      have HLO := Lib.hid (f_lower c)
      have e1 : lowN c = c.toNat ||| 32 := rfl
      simp only [← e1] at H95
      generalize lowN c = L at hlow hl256 hLW H95 HLO
      generalize hvU c = V at hLW hRD
      clear hB hdrop hget hp7 hp7'
      by_cases hdig : 48 ≤ c.toNat ∧ c.toNat ≤ 57
      · have HV := Lib.hid (hLW.out.trans (if_pos hdig))
        obtain ⟨hd0, hd1⟩ := hdig
        have HN := Lib.hid (show a * 16 + ((c.toNat : Int) - 48) = ((16 * acc + (c.toNat - 48) : Nat) : Int) ∧ 16 * acc + (c.toNat - 48) < 16 ^ (k + 1) ∧ rdU 0 bs = rdU (16 * acc + (c.toNat - 48)) (bs.drop (k + 1)) from ⟨by omega, by rw [hpk]; omega, by rw [hdec, hRD.out, HV.out]; rfl⟩)
        have iov : a * 16 + ((c.toNat : Int) - 48) ≤ 4294967295 := by omega
        clear hdec hacc hlow hl256 hLW hRD HV hpk ha
        go_wp2
        refine ⟨⟨k + 1, 16 * acc + (c.toNat - 48), a * 16 + ((c.toNat : Int) - 48), rfl, (by first | rfl | (congr 1; omega)), (by first | rfl | (congr 1; omega)), by omega, HN⟩, by simp [intOf]; omega⟩
      · by_cases hlet : 97 ≤ L ∧ L ≤ 102
        · have HV := Lib.hid (hLW.out.trans ((if_neg hdig).trans (if_pos hlet)))
          obtain ⟨hd0, hd1⟩ := hlet
          have HN := Lib.hid (show a * 16 + ((L : Int) - 87) = ((16 * acc + (L - 87) : Nat) : Int) ∧ 16 * acc + (L - 87) < 16 ^ (k + 1) ∧ rdU 0 bs = rdU (16 * acc + (L - 87)) (bs.drop (k + 1)) from ⟨by omega, by rw [hpk]; omega, by rw [hdec, hRD.out, HV.out]; rfl⟩)
          have h95 := H95.out hd0 (by omega)
          have h95i : ((c.toNat : Int) == 95) = false := by rw [beq_eq_false_iff_ne]; omega
          have i2 : (97 : Int) ≤ (L : Int) := by omega
          have i3 : (L : Int) ≤ 122 := by omega
          have iov : a * 16 + ((L : Int) - 87) ≤ 4294967295 := by omega
          clear hdec hacc hlow hLW hRD HV hpk ha H95
          rcases (show ¬ 48 ≤ c.toNat ∨ ¬ c.toNat ≤ 57 by omega) with hd | hd
          all_goals
            have hdi : ¬ ((48 : Int) ≤ (c.toNat : Int) ∧ (c.toNat : Int) ≤ 57) := by omega
            go_wp2_with (go_at_call 71; refine (HLO.out _).mono ?_; rintro e w' ⟨rfl, rfl⟩)
            refine ⟨⟨k + 1, 16 * acc + (L - 87), a * 16 + ((L : Int) - 87), rfl, (by first | rfl | (congr 1; omega)), (by first | rfl | (congr 1; omega)), by omega, HN⟩, by simp [intOf]; omega⟩
        · have HF := Lib.hid (show rdU 0 bs = none by rw [hdec, hRD.out, hLW.out, if_neg hdig, if_neg hlet]; rfl)
          clear hdec hacc hLW hRD hpk ha H95
          have hdi : ¬ ((48 : Int) ≤ (c.toNat : Int) ∧ (c.toNat : Int) ≤ 57) := by omega
          have hli : ¬ ((97 : Int) ≤ (L : Int) ∧ (L : Int) ≤ 102) := by omega
          go_wp2_with (go_at_call 71; first | (refine (HLO.out _).mono ?_; rintro e w' ⟨rfl, rfl⟩) | (refine (f_lower95 _).mono ?_; rintro e w' ⟨rfl, rfl⟩))
          all_goals
            go_ret2
            exact ⟨by rw [HF.out]; rfl, HBW.out⟩
    · have hkk : k = 8 := by omega
      subst hkk
      have HF := Lib.hid (show rdU 0 bs = some acc by rw [hdec, List.drop_eq_nil_of_le (by omega)]; rfl)
      have hng : ¬ ((8 : Nat) : Int) < 8 := by decide
      subst ha
      clear hacc hdec
      go_wp2
      go_ret2
      exact ⟨by rw [HF.out]; rfl, HBW.out⟩

end Go.Proofs.YtebahccjaieajaaGreatDoor
