/- Contracts: numbers in hexadecimal, by the library: formatBits, FormatInt at base 16. -/
import Derived.Test.YtebahccjaieajaaGreatDoorK100
import Derived.Test.YtebahccjaieajaaGreatDoorBk2
import Derived.Test.YtebahccjaieajaaGreatDoorS8
namespace Go.Proofs.YtebahccjaieajaaGreatDoor
set_option linter.unusedSimpArgs false
set_option linter.unusedVariables false
set_option maxRecDepth 100000
set_option maxHeartbeats 4000000
open Go.RowKit
attribute [local go_sem] run_store_float run_store_complex alloc_drewN setCell_drewN

theorem and15u (a : Nat) (ha : a < 18446744073709551616) : bits .and .u64 (a : Int) 15 = ((a % 16 : Nat) : Int) := by
  have h := bits_and_u64_nat a 15 ha (by decide)
  rw [Nat.and_two_pow_sub_one_eq_mod a 4] at h
  exact h
theorem set_drop {α : Type} (l : List α) (v : α) {k : Nat} (hk : k < l.length) : (l.set k v).drop k = v :: l.drop (k + 1) := by
  rw [List.drop_eq_getElem_cons (by rw [List.length_set]; exact hk), List.getElem_set_self, List.drop_set_of_lt (Nat.lt_succ_self _)]
def hexDig : ByteArray := ⟨#[48, 49, 50, 51, 52, 53, 54, 55, 56, 57, 97, 98, 99, 100, 101, 102, 103, 104, 105, 106, 107, 108, 109, 110, 111, 112, 113, 114, 115, 116, 117, 118, 119, 120, 121, 122]⟩
theorem hexIx36 : ∀ (d : Nat) (hd : d < 16) (h : d < hexDig.size), (hexDig[d]'h).toNat = (hx d).toNat := by decide
/-- The tail of a block of bytes as a text. -/
theorem conv_tail {P : Program} {S U T : TypeId} (hs : P.underlying S = some (.slice T)) (he : P.underlying T = some (.int .u8)) (hd : P.underlying U = some .string) {W : World} {p j : Nat} {vs : List Value} {xs : List UInt8} (h : BK W p vs) (hx : vs.drop j = xs.map byV) (cap : Nat) :
    (convert S U (.slice (some ⟨p, j, none⟩) xs.length cap)).run P W = .ok (.string ⟨xs.toArray⟩) W := by
  refine run_convert_bytes_back W S U T ⟨p, j, none⟩ cap xs hs he hd (fun i hi => ?_)
  rw [Addr.add_lit]
  refine h.at ?_
  have h1 : (vs.drop j)[i]? = some (byV xs[i]) := by rw [hx, List.getElem?_map, List.getElem?_eq_getElem hi]; rfl
  rw [List.getElem?_drop] at h1
  exact h1

theorem f_isPow16 (w : World) : Calls Tryz.prog 98 #[.int .i64 16] w fun e w' => e = .returned (.bool true) ∧ w' = w := by
  have h : bits .and .i64 16 15 = 0 := by decide
  go_enter Tryz.func98, Tryz.ntmps98
  go_wp2_with fail
  go_ret
  exact ⟨rfl, rfl⟩

theorem f_tz64 (w : World) (hdb : w.cell? ⟨8, 15, none⟩ = some (.int .u8 4)) : Calls Tryz.prog 103 #[.int .u64 16] w fun e w' => e = .returned (.int .i64 4) ∧ w' = w := by
  have h : bits .and .u64 16 18446744073709551600 = 16 := by decide
  have h1 : IntKind.u64.wrap (-16) = 18446744073709551600 := by decide
  have h2 : IntKind.u64.wrap (16 * 285870213051353865) = 4573923408821661840 := by decide
  have h3 : IntKind.u64.wrap 4573923408821661840 = 4573923408821661840 := by decide
  go_enter Tryz.func103, Tryz.ntmps103
  go_wp2_with fail
  go_ret
  exact ⟨rfl, rfl⟩
theorem f_tz (w : World) (hdb : w.cell? ⟨8, 15, none⟩ = some (.int .u8 4)) : Calls Tryz.prog 99 #[.int .u64 16] w fun e w' => e = .returned (.int .i64 4) ∧ w' = w := by
  go_enter Tryz.func99, Tryz.ntmps99
  go_wp2_with fail
  refine (f_tz64 _ hdb).mono ?_; rintro e w1 ⟨rfl, rfl⟩
  go_wp2_with fail
  go_ret
  exact ⟨rfl, rfl⟩
theorem storeU8 (p j : Nat) (x : Int) : ∀ w, (Instr.storeAt 5 (.pointer (some ⟨p, j, none⟩)) (.int .u8 x)).run Tryz.prog w = (store ⟨p, j, none⟩ (.int .u8 x) .plain).run Tryz.prog w := by intro w; go_simp
theorem slice65 (p j : Nat) (hj : j ≤ 64) (w : World) : (Instr.sliceAt 127 (.pointer (some ⟨p, 0, none⟩)) (some (.int .i64 (j : Int))) none none).run Tryz.prog w = .ok (.slice (some ⟨p, j, none⟩) (65 - j) (65 - j)) w := by
  have hl : Tryz.prog.arrayLen 127 = 65 := by kernel_rfl
  have hs : ∀ w, (sizeOf (Tryz.prog.elem 127)).run Tryz.prog w = .ok 1 w := fun w => by kernel_rfl
  rw [run_sliceAt_array_l w 127 ⟨p, 0, none⟩ (by kernel_rfl) .i64 j (by omega) (by rw [hl]; omega), hs, hl]
  show Result.ok (slicedAt _ _ _ _ _) _ = _
  rw [slicedAt, Int.toNat_natCast, if_neg (by omega), Nat.mul_one, Addr.add_lit, Nat.zero_add]

theorem f_formatBits (n : Nat) (hn : n < 4294967296) (w : World) (hdb : w.cell? ⟨8, 15, none⟩ = some (.int .u8 4)) :
    Calls Tryz.prog 85 #[.slice none 0 0, .int .u64 (n : Int), .int .i64 16, .bool false, .bool false] w fun e w' => e = .returned (.tuple #[.slice none 0 0, .string (tx (hexN n))]) ∧ Below w.heap.size w w' := by
  have hl8 := (hex8_pad hn).1
  have hlt := block_lt_of_cell hdb
  have HB0 := Lib.hid (show BK (w.alloc (.cells Tryz.zeroCells127 127)) w.heap.size (List.replicate 65 (Value.int .u8 0)) by
    rw [show Tryz.zeroCells127 = (List.replicate 65 (Value.int .u8 0)).toArray by kernel_rfl]
    exact BK.new w (List.replicate 65 (Value.int .u8 0)) 127)
  go_enter Tryz.func85, Tryz.ntmps85
  go_wp2_with fail
  refine (f_isPow16 _).mono ?_; rintro e w1 ⟨rfl, rfl⟩
  go_wp2_with fail
  refine (f_tz _ ((World.cell?_alloc_lt _ _ _ hlt).trans hdb)).mono ?_; rintro e w1 ⟨rfl, rfl⟩
  have hb0 : Below w.heap.size w (w.alloc (.cells Tryz.zeroCells127 127)) := (Below.refl _ _).alloc (Nat.le_refl _) _
  generalize w.alloc (.cells Tryz.zeroCells127 127) = w1 at *
  have hz1 : w.heap.size ≤ w1.heap.size := hb0.size
  have h1 : BK w1 w.heap.size (List.replicate 65 (Value.int .u8 0)) := HB0.out
  generalize hp : w.heap.size = p at *
  go_wp2_with fail
  go_loopw [1, 13] (fun u i wr => ∃ (r k : Nat) (out : List UInt8) (vs : List Value), r < 4294967296 ∧ u = .int .u64 (r : Int) ∧ i = .int .i64 (k : Int) ∧ out.length + k = 65 ∧ 57 < k ∧ Hid (hexN n = hexN r ++ out) ∧ vs.length = 65 ∧ Hid (vs.drop k = out.map byV) ∧ Hid (BK wr p vs) ∧ Hid (Below p w wr)) (fun u _ _ => (intOf u).toNat)
  case atStart => exact ⟨n, 65, [], _, hn, rfl, rfl, rfl, by decide, (List.append_nil _).symm, List.length_replicate .., (show _ = _ by simp), h1, hb0⟩
  case round =>
    obtain ⟨r, k, out, vs, hr, rfl, rfl, hout, hk, HX, hvs, HD, HB, HW⟩ := hrel
    obtain ⟨j, rfl⟩ : ∃ j, k = j + 1 := ⟨k - 1, by omega⟩
    simp only [Int.natCast_add, Int.natCast_one]
    have hj1 : j ≤ 64 := by omega
    by_cases hgo : 16 ≤ r
    · obtain ⟨d, hdd⟩ : ∃ d, d = r % 16 := ⟨_, rfl⟩
      have hd16 : d < 16 := by omega
      have hix : ∀ h, (hexDig[d]'h).toNat = (hx d).toNat := fun h => hexIx36 d hd16 h
      unfold hexDig at hix
      have hbt : bits .and .u64 (r : Int) 15 = (d : Int) := by rw [and15u _ (by omega), hdd]
      have hgi : (16 : Int) ≤ (r : Int) := by omega
      have HN := Lib.hid (show hexN n = hexN (r / 16) ++ (hx d :: out) by rw [HX.out, hexN_great (by omega), hdd]; simp)
      have hlen : out.length + 2 ≤ 8 := by
        have h2 := congrArg List.length HN.out
        have h3 := List.length_pos_iff.2 (hexN_ne (r / 16))
        simp only [List.length_append, List.length_cons] at h2
        omega
      have HD2 := Lib.hid (show (vs.set j (byV (hx d))).drop j = (hx d :: out).map byV by rw [set_drop _ _ (by omega), HD.out]; rfl)
      clear hdd hgo
      go_wp2_with (refine wpList_storeBK2 (storeU8 _ _ _) rfl rfl rfl HB.out (by omega) ?_; intro W hB hO hL hZ; have HB2 := Lib.hid hB; have HW2 := Lib.hid (hL _ _ HW.out (Nat.le_refl _)); clear hB hO hL hZ)
      refine ⟨⟨r / 16, j, hx d :: out, _, by omega, by go_num, rfl, by simp only [List.length_cons]; omega, by omega, HN.out, ?_, HD2.out, HB2.out, HW2.out⟩, ?_⟩
      · rw [List.length_set]; exact hvs
      · simp [intOf]; omega
    · have hix : ∀ h, (hexDig[r]'h).toNat = (hx r).toNat := fun h => hexIx36 r (by omega) h
      unfold hexDig at hix
      have hgi : ¬ (16 : Int) ≤ (r : Int) := by omega
      have HN := Lib.hid (show hexN n = hx r :: out by rw [HX.out, hexN_small (by omega)]; rfl)
      have HD2 := Lib.hid (show (vs.set j (byV (hx r))).drop j = (hx r :: out).map byV by rw [set_drop _ _ (by omega), HD.out]; rfl)
      obtain ⟨L, hL0⟩ : ∃ L, L = 65 - j := ⟨_, rfl⟩
      have HSL := slice65 p j hj1
      rw [← hL0] at HSL
      have hLn : (hx r :: out).length = L := by rw [List.length_cons]; omega
      clear hL0
      have HLN := Lib.hid hLn
      clear hLn hgo
      go_wp2_with (refine wpList_storeBK2 (storeU8 _ _ _) rfl rfl rfl HB.out (by omega) ?_; intro W hB hO hL hZ; have HW2 := Lib.hid (hL _ _ HW.out (Nat.le_refl _)); have RS := conv_tail (P := Tryz.prog) (S := 73) (U := 9) (T := 5) Tryz.underlying73 Tryz.underlying5 Tryz.underlying9 hB HD2.out L; rw [HLN.out] at RS; clear hB hO hL hZ)
      go_ret2
      refine ⟨?_, ?_⟩
      · rw [HN.out]; rfl
      · exact HW2.out

end Go.Proofs.YtebahccjaieajaaGreatDoor
