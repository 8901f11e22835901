/- Contracts: which lists of numbers are the same, by the reference. -/
import Derived.Deep.QuietTactic
import Derived.BigQuiet
import Derived.Laws.AppendOwnNone
import Derived.Test.YtkkomajokdlkeaaQ4
import Derived.Test.YtkkomajokdlkeaaQ8
import Derived.Test.YtkkomajokdlkeaaQ9
import Derived.Test.YtkkomajokdlkeaaQ12
import Derived.Test.YtkkomajokdlkeaaQ13
import Derived.Test.YtkkomajokdlkeaaQ18
import Derived.Test.YtkkomajokdlkeaaQ22
namespace Go.Proofs.Ytkkomajokdlkeaa
set_option linter.unusedSimpArgs false
set_option linter.unusedVariables false
set_option maxRecDepth 100000
set_option maxHeartbeats 4000000
open Go.RowKit
attribute [local go_sem] run_store_float run_store_complex alloc_drewN setCell_drewN

theorem SB.getX {w : World} {v : Value} {cs : List Nat} (h : SB w v cs) {n : Nat} (hn : cs.length = n) : ∃ ao c, v = .slice ao n c ∧ n ≤ c ∧ c ≤ 9223372036854775807 ∧ ∀ i, i < n → ∃ b off r, ao = some ⟨b, off, none⟩ ∧ b < w.heap.size ∧ w.cell? ⟨b, off + i, none⟩ = some (.float .f32 r) ∧ r < 4294967296 ∧ cn .f32 r = cs.getD i 0 := by
  obtain ⟨ao, c, xs, rfl, rfl, h3, h5, h4⟩ := h
  have hn' : xs.length = n := by simpa using hn
  subst hn'
  refine ⟨ao, c, rfl, h3.1, h3.2, fun i hi => ?_⟩
  obtain ⟨b, off, e1, e2, e3⟩ := h4 i hi
  exact ⟨b, off, xs[i], e1, e2, e3, h5 _ (List.getElem_mem hi), by simp [hi]⟩
theorem list_same {cs ds : List Nat} (hl : cs.length = ds.length) (h : ∀ i, i < cs.length → cs.getD i 0 = ds.getD i 0) : (cs == ds) = true := by
  rw [beq_iff_eq]
  refine List.ext_getElem hl fun i h1 h2 => ?_
  have := h i h1
  simpa [h1, h2] using this
theorem list_other {cs ds : List Nat} {k : Nat} (h : cs.getD k 0 ≠ ds.getD k 0) : (cs == ds) = false := by
  cases e : cs == ds
  · rfl
  · rw [beq_iff_eq] at e; subst e; exact absurd rfl h
theorem list_longer {cs ds : List Nat} (h : cs.length ≠ ds.length) : (cs == ds) = false := by
  cases e : cs == ds
  · rfl
  · rw [beq_iff_eq] at e; subst e; exact absurd rfl h

end Go.Proofs.Ytkkomajokdlkeaa

namespace Go.Proofs.Ytkkomajokdlkeaa
set_option linter.unusedSimpArgs false
set_option linter.unusedVariables false
set_option maxRecDepth 100000
set_option maxHeartbeats 4000000
open Go.RowKit
attribute [local go_sem] run_store_float run_store_complex alloc_drewN setCell_drewN


theorem s_SameNumber (x y : Nat) (hx : x < 4294967296) (hy : y < 4294967296) (w : World) :
    Calls Try.prog 19 #[.float .f32 x, .float .f32 y] w fun e w' => e = .returned (.bool (same (cn .f32 x) (cn .f32 y))) ∧ Dr w w' := by
  go_enter Try.func19, Try.ntmps19
  go_wp2_with fail
  refine (s_l01Same x y hx hy _).mono ?_
  rintro z w1 ⟨rfl, n, rfl⟩
  go_wp2_with fail
  go_ret
  exact ⟨rfl, _, rfl⟩

theorem l_b10AtX (v : Value) (cs : List Int) (i n : Nat) (hi : i ≤ 1000) (hn : 1 < n) (hn2 : n ≤ 100000) (w : World) (hv : GL (Value.int .u8) w v cs) (hw : allU8 cs) :
    Calls Try.prog 8 #[v, .int .i64 (i : Int), .int .i64 (n : Int)] w fun e w' => (∃ x : Nat, x < n ∧ e = .returned (.int .i64 (x : Int))) ∧ Dr w w' := by
  obtain ⟨ao, c, rfl, hc1, hc2⟩ := hv.slice
  have z0 : (0 : Int) ≤ (i : Int) := by omega
  have z2 : ((i : Int)).toNat = i := by omega
  have z3 : (1 : Int) < (n : Int) := by omega
  by_cases h : i < cs.length
  · obtain ⟨b, off, rfl, hbl, hcell⟩ := hv.getU i h
    have hx := hw.get i
    have z1 : (i : Int) < (cs.length : Int) := by omega
    clear hv hw
    generalize cs.getD i 0 = x at *
    obtain ⟨xn, rfl⟩ := Int.eq_ofNat_of_zero_le hx.1
    have hlt : xn % n < n := Nat.mod_lt _ (by omega)
    have HM := Lib.hid (show (xn : Int) % (n : Int) = ((xn % n : Nat) : Int) by omega)
    go_enter Try.func8, Try.ntmps8
    go_wp2_with fail
    go_ret
    refine ⟨⟨xn % n, hlt, ?_⟩, Dr.refl _⟩
    exact congrArg (fun z => Ending.returned (Value.int .i64 z)) HM.out
  · have z1 : ¬ (i : Int) < (cs.length : Int) := by omega
    clear hv hw
    have hlt : (i * 37 + 11) % n < n := Nat.mod_lt _ (by omega)
    have HM := Lib.hid (show ((i : Int) * 37 + 11) % (n : Int) = (((i * 37 + 11) % n : Nat) : Int) by rw [Int.natCast_emod]; push_cast; rfl)
    go_enter Try.func8, Try.ntmps8
    go_wp2_with fail
    go_ret
    refine ⟨⟨(i * 37 + 11) % n, hlt, ?_⟩, Dr.refl _⟩
    exact congrArg (fun z => Ending.returned (Value.int .i64 z)) HM.out

theorem l_b10List (u v : Value) (cs : List Nat) (w : World) (hu : SB w u cs) (hv : SB w v cs) :
    Calls Try.prog 13 #[u, v] w fun e w' => e = .returned (.bool true) ∧ Dr w w' := by
  obtain ⟨ao, c, rfl, hc1, hc2, hget⟩ := SB.getX hu rfl
  obtain ⟨bo, d, rfl, hd1, hd2, hget'⟩ := SB.getX hv rfl
  have HC := Lib.hid hget
  have HD := Lib.hid hget'
  clear hget hget' hu hv
  go_enter Try.func13, Try.ntmps13
  go_wp2_with fail
  go_loopw [13] (fun i wr => ∃ k : Nat, k ≤ cs.length ∧ i = .int .i64 k ∧ ∃ d, wr = w.drewN d) (fun i _ => cs.length - (intOf i).toNat)
  case atStart => exact ⟨0, Nat.zero_le _, rfl, 0, rfl⟩
  case round =>
    obtain ⟨k, hk, rfl, dd, rfl⟩ := hrel
    by_cases hlt : k < cs.length
    · obtain ⟨b, off, r, rfl, hbl, hc, hr, hcr⟩ := HC.out k hlt
      obtain ⟨b', off', r', rfl, hbl', hc', hr', hcr'⟩ := HD.out k hlt
      have z0 : (0 : Int) ≤ (k : Int) := by omega
      have z1 : (k : Int) < (cs.length : Int) := by omega
      have z2 : ((k : Int)).toNat = k := by omega
      have HQ := Lib.hid (fun n => by have h := s_SameNumber r r' hr hr' (w.drewN (dd + n)); rw [hcr, hcr', show same (cs.getD k 0) (cs.getD k 0) = true by simp [same]] at h; exact h)
      have HQ0 := Lib.hid (fun n => by have h := s_SameNumber r r' hr hr' (w.drewN n); rw [hcr, hcr', show same (cs.getD k 0) (cs.getD k 0) = true by simp [same]] at h; exact h)
      clear hcr hcr'
      go_wp2_with fail
      go_quiet ((go_at_call 19; first | exact quiet_dr2 (HQ.out _) | exact quiet_dr (HQ0.out _)))
      go_wp2_with fail
      exact ⟨⟨k + 1, by omega, by go_num, _, rfl⟩, by simp [intOf]; omega⟩
    · go_wp2_with fail
      go_ret
      exact ⟨rfl, _, rfl⟩

theorem l_b10Ints (u v : Value) (xs : List Int) (w : World) (hu : GL (Value.int .i64) w u xs) (hv : GL (Value.int .i64) w v xs) :
    Calls Try.prog 12 #[u, v] w fun e w' => e = .returned (.bool true) ∧ Dr w w' := by
  obtain ⟨ao, c, rfl, hlen, hcell⟩ := hu
  obtain ⟨bo, d, rfl, hlen', hcell'⟩ := hv
  have HC := Lib.hid hcell
  have HD := Lib.hid hcell'
  clear hcell hcell'
  go_enter Try.func12, Try.ntmps12
  go_wp2_with fail
  go_loopw [13] (fun i wr => ∃ k : Nat, k ≤ xs.length ∧ i = .int .i64 k ∧ ∃ d, wr = w.drewN d) (fun i _ => xs.length - (intOf i).toNat)
  case atStart => exact ⟨0, Nat.zero_le _, rfl, 0, rfl⟩
  case round =>
    obtain ⟨k, hk, rfl, dd, rfl⟩ := hrel
    by_cases hlt : k < xs.length
    · obtain ⟨b, off, rfl, hb, hc⟩ := HC.out k hlt
      obtain ⟨b', off', rfl, hb', hc'⟩ := HD.out k hlt
      obtain ⟨xk, hxk⟩ : ∃ y, y = xs[k] := ⟨_, rfl⟩
      rw [← hxk] at hc hc'
      clear hxk
      have z0 : (0 : Int) ≤ (k : Int) := by omega
      have z1 : (k : Int) < (xs.length : Int) := by omega
      have z2 : ((k : Int)).toNat = k := by omega
      go_wp2_with fail
      go_quiet (fail)
      go_wp2_with fail
      exact ⟨⟨k + 1, by omega, by go_num, _, rfl⟩, by simp [intOf]; omega⟩
    · go_wp2_with fail
      go_ret
      exact ⟨rfl, _, rfl⟩

end Go.Proofs.Ytkkomajokdlkeaa

namespace Go.Proofs.Ytkkomajokdlkeaa
set_option linter.unusedSimpArgs false
set_option linter.unusedVariables false
set_option maxRecDepth 100000
set_option maxHeartbeats 4000000
open Go.RowKit
theorem run_append_noneC {P : Program} {w : World} (base : Nat) (t ty e : TypeId) (i : TypeInfo) (size : Nat) (ht : P.underlying t = some (.slice e)) (hi : P.info? e = some i)
    (v : Value) (n c : Nat) (xs : List Value) (hown : w.ownsRow base e size v n xs) :
    (Builtin.append_ #[t, t] ty #[v, .slice none 0 c]).run P w = .ok v w := by
  rcases hown.2 with ⟨rfl, rfl⟩ | ⟨g, cap, cur, rfl, _, _, hnc, _⟩
  · simp [Builtin.append_, run_underlying ht, sizeOf, typeInfo, hi, Builtin.lenOf, Builtin.firstCells]
  · simp [Builtin.append_, run_underlying ht, sizeOf, typeInfo, hi, Builtin.lenOf, Builtin.firstCells, hnc, storeCells]
section
variable {α : Type} {inj : α → Value} {P : Program} {S T : Nat} {z : Value} {by_ : Nat}
theorem wpList_gappG (F : OneC P S T z by_) (hinj : ∀ x, (inj x).oneCell' = true) {ops : Array Oper} {Q : Exit → Act → World → Prop} {a : Act} {w : World} {rest : List Oper} {dst : Option Tmp} {s x : Operand} {type : TypeId} {pos : String} {after : Array Edge}
    (lo : Nat) (v : Value) (xs : List α) (hs : a.eval s = v) (hown : GO inj T lo w v xs) (ys : List α) (u : Value) (hx : a.eval x = u) (hc : GL inj w u ys)
    (hl : xs.length + ys.length < 1099511627776) (hbase : lo ≤ w.heap.size)
    (h : ∀ v' w', GO inj T lo w' v' (xs ++ ys) → w.grownBy w' v.ownBlock → wpList P ops Q rest (a.put dst v') w') :
    wpList P ops Q ({ dst := dst, op := .call { callee := .builtin .append, args := #[s, x], argTypes := #[S, S] }, type := type, pos := pos, after := after, guard := none } :: rest) a w := by
  obtain ⟨i, hi, hz, hsz, hby⟩ := F.info
  have h16 := F.small
  obtain ⟨ao, c, hu, hlc, hcell⟩ := hc
  subst hu
  cases ao with
  | none =>
    have hy : ys = [] := by
      cases ys with
      | nil => rfl
      | cons y ys =>
        obtain ⟨b, off, e, -⟩ := hcell 0 (by simp)
        cases e
    subst hy
    refine wpList_plain rfl fun K hK => ?_
    have hrun := run_append_noneC (P := P) (w := w) lo S type T i 1 F.slice hi v xs.length c _ hown
    unfold Oper.wp
    simp [execOp, resolve, invoke, builtin, hs, hx, hrun, Result.andThen]
    have h5 := h v w (by rw [List.append_nil]; exact hown) (grown_of_below (Below.refl _ _) _)
    exact hK _ _ h5
  | some ad =>
    refine wpList_append_own (P := P) w rfl s x S rfl lo T i z 1 by_ F.slice hi hz hsz hby (by rw [F.one]; rfl) (by decide) v xs.length _ hs hown ad ys.length c (ys.map inj) hx (by simp) ?_ ?_ ?_ ?_ hbase ?_
    · intro j u hu
      rw [List.getElem?_map] at hu
      obtain ⟨y, hy, rfl⟩ := Option.map_eq_some_iff.1 hu
      have hj : j < ys.length := (List.getElem?_eq_some_iff.1 hy).1
      obtain ⟨b, off, e, -, hcl⟩ := hcell j hj
      injection e with e
      subst e
      rw [Addr.add_lit, hcl]
      rw [List.getElem?_eq_getElem hj] at hy
      injection hy with hy
      rw [hy]
    · intro u hu
      obtain ⟨y, _, rfl⟩ := List.mem_map.1 hu
      exact hinj y
    · have : maxLen = 9223372036854775807 := rfl
      omega
    · have : (xs.length + ys.length) * by_ ≤ 1099511627776 * 32 := Nat.mul_le_mul (by omega) h16
      omega
    · intro v' w' h1 h2 _
      refine h v' w' ?_ h2
      unfold GO
      rw [List.length_append, List.map_append]
      exact h1
end
/-- What is laid in a new block is the call's own. -/
theorem GO.lit {α : Type} (inj : α → Value) (T lo : Nat) (w : World) (xs : List α) (hlo : lo ≤ w.heap.size) (hl : xs.length ≤ 9223372036854775807) : GO inj T lo (w.alloc (.cells (xs.map inj).toArray T)) (.slice (some ⟨w.heap.size, 0, none⟩) xs.length xs.length) xs := by
  have := World.ownsRow_lit (base := lo) (e := T) (size := 1) w (xs.map inj).toArray xs.length hlo hl (by simp)
  unfold GO
  simpa using this
/-- A block of one-cell elements is read as a slice. -/
theorem GL.blockN {α : Type} (inj : α → Value) (T : Nat) (w : World) (xs : List α) (hl : xs.length ≤ 9223372036854775807) : GL inj (w.alloc (.cells (xs.map inj).toArray T)) (.slice (some ⟨w.heap.size, 0, none⟩) xs.length xs.length) xs := by
  refine ⟨_, _, rfl, ⟨Nat.le_refl _, hl⟩, fun i hi => ⟨_, _, rfl, by simp, ?_⟩⟩
  rw [World.cell?_alloc_new]
  simp [hi]

end Go.Proofs.Ytkkomajokdlkeaa

namespace Go.Proofs.Ytkkomajokdlkeaa
set_option linter.unusedSimpArgs false
set_option linter.unusedVariables false
set_option maxRecDepth 100000
set_option maxHeartbeats 4000000
open Go.RowKit
attribute [local go_sem] run_store_float run_store_complex alloc_drewN setCell_drewN
/-- What a byte tells. -/
def bAt (cs : List Int) (i n : Nat) : Nat := if i < cs.length then (cs.getD i 0).toNat % n else (i * 37 + 11) % n
theorem bAt_lt (cs : List Int) (i : Nat) {n : Nat} (hn : 0 < n) : bAt cs i n < n := by unfold bAt; split <;> exact Nat.mod_lt _ hn
theorem word_lt32 (s : Bool) {r : Nat} (h : r ≤ S.infRung) : S.word s r < 4294967296 := by
  have h1 : S.infRung = 2139095040 := by decide +kernel
  have h2 : S.signWeight = 2147483648 := by decide +kernel
  unfold Ieee.Format.word
  split <;> omega
theorem write_lt32 (d : Ieee.Datum) (h : d.isNaN = false) : S.write d < 4294967296 := by
  cases d with
  | number s m p =>
    show S.nearest s m p < _
    unfold Ieee.Format.nearest
    split
    · exact word_lt32 s (Nat.zero_le _)
    · exact word_lt32 s (Nat.min_le_right _ _)
  | infinity s => exact word_lt32 s (Nat.le_refl _)
  | nan s t => cases h
theorem rootF_lt (c : Nat) : rootF c < 4294967296 := by
  unfold rootF nwD
  split
  · decide
  · rename_i h
    exact write_lt32 _ (by simpa using h)
theorem farL_lt (cs ds : List Nat) : farL cs ds < 4294967296 := rootF_lt _

theorem oneU8N : OneC Try.prog 22 5 (.int .u8 0) 1 := oneC_of Try.underlying22 (by kernel_rfl) rfl (by decide)

theorem l_b10AtV (v : Value) (cs : List Int) (i n : Nat) (hi : i ≤ 1000) (hn : 1 < n) (hn2 : n ≤ 100000) (w : World) (hv : GL (Value.int .u8) w v cs) (hw : allU8 cs) :
    Calls Try.prog 8 #[v, .int .i64 (i : Int), .int .i64 (n : Int)] w fun e w' => e = .returned (.int .i64 ((bAt cs i n : Nat) : Int)) ∧ Dr w w' := by
  obtain ⟨ao, c, rfl, hc1, hc2⟩ := hv.slice
  have z0 : (0 : Int) ≤ (i : Int) := by omega
  have z2 : ((i : Int)).toNat = i := by omega
  have z3 : (1 : Int) < (n : Int) := by omega
  by_cases h : i < cs.length
  · obtain ⟨b, off, rfl, hbl, hcell⟩ := hv.getU i h
    have hx := hw.get i
    have z1 : (i : Int) < (cs.length : Int) := by omega
    clear hv hw
    have hB : bAt cs i n = (cs.getD i 0).toNat % n := by unfold bAt; rw [if_pos h]
    rw [hB]
    clear hB
    generalize cs.getD i 0 = x at *
    obtain ⟨xn, rfl⟩ := Int.eq_ofNat_of_zero_le hx.1
    have hlt : xn % n < n := Nat.mod_lt _ (by omega)
    have HM := Lib.hid (show (xn : Int) % (n : Int) = (((xn : Int).toNat % n : Nat) : Int) by rw [Int.toNat_natCast]; omega)
    go_enter Try.func8, Try.ntmps8
    go_wp2_with fail
    go_ret
    refine ⟨?_, Dr.refl _⟩
    exact congrArg (fun z => Ending.returned (Value.int .i64 z)) HM.out
  · have z1 : ¬ (i : Int) < (cs.length : Int) := by omega
    clear hv hw
    have hB : bAt cs i n = (i * 37 + 11) % n := by unfold bAt; rw [if_neg h]
    rw [hB]
    clear hB
    have hlt : (i * 37 + 11) % n < n := Nat.mod_lt _ (by omega)
    have HM := Lib.hid (show ((i : Int) * 37 + 11) % (n : Int) = (((i * 37 + 11) % n : Nat) : Int) by rw [Int.natCast_emod]; push_cast; rfl)
    go_enter Try.func8, Try.ntmps8
    go_wp2_with fail
    go_ret
    refine ⟨?_, Dr.refl _⟩
    exact congrArg (fun z => Ending.returned (Value.int .i64 z)) HM.out

theorem i_FarV (u v : Value) (cs ds : List Nat) (c : Nat) (w : World) (hu : SB w u cs) (hv : SB w v ds) (hq : farQ cs ds = (c, true)) (hc : (S.read c).isNaN = false) :
    Calls Try.prog 34 #[u, v] w fun e w' => e = .returned (.tuple #[.float .f32 c, .bool true]) ∧ Below w.heap.size w w' := by
  refine (i_FarOfShapes u v cs ds w hu hv).mono ?_
  rintro e w' ⟨⟨r, b, rfl, hr, hcr, hb⟩, hbl⟩
  rw [hq] at hcr hb
  obtain rfl : r = c := cn32_raw hcr hc
  subst hb
  exact ⟨rfl, hbl⟩

theorem s_FarV (u v : Value) (cs ds : List Nat) (c : Nat) (w : World) (hu : SB w u cs) (hv : SB w v ds) (hq : farQ cs ds = (c, true)) (hc : (S.read c).isNaN = false) :
    Calls Try.prog 14 #[u, v] w fun e w' => e = .returned (.tuple #[.float .f32 c, .bool true]) ∧ Below w.heap.size w w' := by
  refine (s_FarOfShapesB u v cs ds w hu hv).mono ?_
  rintro e w' ⟨⟨r, b, rfl, hr, hcr, hb⟩, hbl⟩
  rw [hq] at hcr hb
  obtain rfl : r = c := cn32_raw hcr hc
  subst hb
  exact ⟨rfl, hbl⟩

theorem i_NearestWarpedV (u v : Value) (css : List (List Nat)) (xs : List Nat) (window workers : Int) (f : Nat → Nat) (w : World) (hu : SS w u css) (hv : SB w v xs) (hl : listOk css = true) (h1 : 1 ≤ css.length) (h2 : css.length ≤ 16) (hw : wpOk (rowL css 0) xs window = true) (hk : inB workers 1 8 = true)
    (hf : ∀ i, i < css.length → wfarQ szI geI (rowL css i) xs window = (f i, true)) (hc : (S.read (f (nwI f (css.length - 1)))).isNaN = false) :
    Calls Try.prog 33 #[u, v, .int .i64 window, .int .i64 workers] w fun e w' => e = .returned (.tuple #[.int .i64 (nwI f (css.length - 1) : Nat), .float .f32 (f (nwI f (css.length - 1))), .bool true]) ∧ Below w.heap.size w w' := by
  refine (i_NearestWarped u v css xs window workers f w hu hv hl h1 h2 hw hk hf).mono ?_
  rintro e w' ⟨⟨r, rfl, hr, hcr⟩, hbl⟩
  obtain rfl : r = _ := cn32_raw hcr hc
  exact ⟨rfl, hbl⟩

end Go.Proofs.Ytkkomajokdlkeaa
