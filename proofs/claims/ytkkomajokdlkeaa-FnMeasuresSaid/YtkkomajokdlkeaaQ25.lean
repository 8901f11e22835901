/- Contracts: costs of warped ways, by the program. -/
import Derived.BigQuiet
import Derived.Test.YtkkomajokdlkeaaQ2
import Derived.Test.YtkkomajokdlkeaaQ3
import Derived.Test.YtkkomajokdlkeaaQ16
import Derived.Test.YtkkomajokdlkeaaQ22
namespace Go.Proofs.Ytkkomajokdlkeaa
set_option linter.unusedSimpArgs false
set_option linter.unusedVariables false
set_option maxRecDepth 100000
set_option maxHeartbeats 4000000
open Go.RowKit
attribute [local go_sem] run_store_float run_store_complex alloc_drewN setCell_drewN
theorem run_negw {P : Program} (x : Nat) (w : World) : (Op.unary .neg (.float .f32 x)).run P w = .ok (.float .f32 (Op.negFloat .f32 x)) w := rfl

theorem i_absoluteN (x : Nat) (hx : (S.read x).isNaN = false) (hlt : x < 4294967296) (w : World) :
    Calls Try.prog 101 #[.float .f32 x] w fun e w' => e = .returned (.float .f32 (szI x)) ∧ Dr w w' := by
  have ho3 := negw_notNaN hlt hx
  have RN := fun w => run_negw (P := Try.prog) x w
  have RM := fun ts t w => run_mx (P := Try.prog) ts t x (Op.negFloat .f32 x) hx ho3 w
  go_enter Try.func101, Try.ntmps101
  go_wp2_with fail
  go_ret
  exact ⟨rfl, Dr.refl _⟩

theorem i_wat (ao : Option Addr) (c : Nat) (C : List Nat) (wide : Nat) (p q : Int) (w : World) (hv : SB w (.slice ao C.length c) C) (hp1 : -1 ≤ p) (hp2 : p ≤ 100) (hq1 : -1 ≤ q) (hq2 : q ≤ 100) (hwd : wide ≤ 100) (hin : 0 ≤ p → 0 ≤ q → p.toNat * wide + q.toNat < C.length) :
    Calls Try.prog 157 #[.agg #[.slice ao C.length c, .int .i64 wide], .int .i64 p, .int .i64 q] w fun e w' => (∃ r, e = .returned (.float .f32 r) ∧ r < 4294967296 ∧ cn .f32 r = wAt C wide p q) ∧ Below w.heap.size w w' := by
  obtain ⟨ao', c', hvv, hc1, hc2, hget⟩ := hv.get rfl
  obtain ⟨rfl, rfl⟩ : ao' = ao ∧ c' = c := by injection hvv with a b c; exact ⟨a.symm, c.symm⟩
  clear hvv
  by_cases hp : p < 0
  · have HW := Lib.hid (show wAt C wide p q = neg1 by unfold wAt; rw [if_pos (.inl hp)])
    go_enter Try.func157, Try.ntmps157
    go_wp2_with fail
    go_ret
    exact ⟨⟨_, rfl, by decide, by rw [HW.out]; decide +kernel⟩, by (repeat (first | exact Below.refl _ _ | assumption | refine below_drewN ?_ _ | refine Below.drew ?_ | refine Below.alloc ?_ (by first | omega | (simp; omega) | (simp; done) | (simp at *; omega)) _ | refine Below.setCell ?_ (by first | omega | (simp; omega) | (simp; done) | (simp at *; omega)) _ | refine Below.trans ?_ (Below.mono (by assumption) (by first | omega | (simp; omega) | (simp; done) | (simp at *; omega)))))⟩
  · by_cases hq : q < 0
    · have HW := Lib.hid (show wAt C wide p q = neg1 by unfold wAt; rw [if_pos (.inr hq)])
      go_enter Try.func157, Try.ntmps157
      go_wp2_with fail
      go_ret
      exact ⟨⟨_, rfl, by decide, by rw [HW.out]; decide +kernel⟩, by (repeat (first | exact Below.refl _ _ | assumption | refine below_drewN ?_ _ | refine Below.drew ?_ | refine Below.alloc ?_ (by first | omega | (simp; omega) | (simp; done) | (simp at *; omega)) _ | refine Below.setCell ?_ (by first | omega | (simp; omega) | (simp; done) | (simp at *; omega)) _ | refine Below.trans ?_ (Below.mono (by assumption) (by first | omega | (simp; omega) | (simp; done) | (simp at *; omega)))))⟩
    · obtain ⟨n, rfl⟩ : ∃ n : Nat, p = (n : Int) := ⟨p.toNat, by omega⟩
      obtain ⟨m, rfl⟩ : ∃ m : Nat, q = (m : Int) := ⟨q.toNat, by omega⟩
      have hlt : n * wide + m < C.length := by have := hin (by omega) (by omega); simpa using this
      have HW := Lib.hid (show wAt C wide n m = C.getD (n * wide + m) 0 by unfold wAt; rw [if_neg (by omega)]; simp)
      obtain ⟨b, off, r, rfl, hbl, hc, hr, hcr⟩ := hget _ hlt
      have HR := Lib.hid hcr
      clear hget hcr hin
      have hnw : n * wide ≤ 100 * 100 := Nat.mul_le_mul (by omega) hwd
      have hmul : (n : Int) * (wide : Int) = ((n * wide : Nat) : Int) := by rw [Int.natCast_mul]
      generalize n * wide = t at *
      have hadd : ((t : Nat) : Int) + (m : Int) = ((t + m : Nat) : Int) := by omega
      generalize t + m = z at *
      have hzi : (z : Int) < (C.length : Int) := by omega
      have hz0 : 0 ≤ (z : Int) := by omega
      have hzn : ((z : Int)).toNat = z := by omega
      have hw1 : IntKind.i64.wrap (t : Int) = (t : Int) := by rw [IntKind.wrap_i64]; omega
      have hw2 : IntKind.i64.wrap (z : Int) = (z : Int) := by rw [IntKind.wrap_i64]; omega
      go_enter Try.func157, Try.ntmps157
      go_wp2_with fail
      go_ret
      exact ⟨⟨_, rfl, hr, by rw [HW.out, HR.out]⟩, by (repeat (first | exact Below.refl _ _ | assumption | refine below_drewN ?_ _ | refine Below.drew ?_ | refine Below.alloc ?_ (by first | omega | (simp; omega) | (simp; done) | (simp at *; omega)) _ | refine Below.setCell ?_ (by first | omega | (simp; omega) | (simp; done) | (simp at *; omega)) _ | refine Below.trans ?_ (Below.mono (by assumption) (by first | omega | (simp; omega) | (simp; done) | (simp at *; omega)))))⟩
/-- Where what is best lies, as the program hands it on. -/
def wbI (i : Int) (o : Option (Nat × Nat)) : Int := match o with | none => 0 | some b => candI b.1 i
def wbK (k : Int) (o : Option (Nat × Nat)) : Int := match o with | none => 0 | some b => candK b.1 k

theorem BK.newAtW {n : Nat} (w : World) (vs : List Value) (T : TypeId) (hn : n = w.heap.size) : BK (w.alloc (.cells vs.toArray T)) n vs := by subst hn; exact BK.new w vs T
theorem idxW (a0 a1 a2 a3 a4 a5 : Int) (w : World) :
    (Instr.index 139 (.agg #[.int .i64 a0, .int .i64 a1, .int .i64 a2, .int .i64 a3, .int .i64 a4, .int .i64 a5]) (.int .i64 0)).run Try.prog w = .ok (.agg #[.int .i64 a0, .int .i64 a1]) w ∧
    (Instr.index 139 (.agg #[.int .i64 a0, .int .i64 a1, .int .i64 a2, .int .i64 a3, .int .i64 a4, .int .i64 a5]) (.int .i64 1)).run Try.prog w = .ok (.agg #[.int .i64 a2, .int .i64 a3]) w ∧
    (Instr.index 139 (.agg #[.int .i64 a0, .int .i64 a1, .int .i64 a2, .int .i64 a3, .int .i64 a4, .int .i64 a5]) (.int .i64 2)).run Try.prog w = .ok (.agg #[.int .i64 a4, .int .i64 a5]) w := by
  have h : Try.prog.underlying 139 = some (.array 3 81) := by kernel_rfl
  have hs : ∀ w, (sizeOf 81).run Try.prog w = .ok 2 w := by intro w; go_simp
  refine ⟨?_, ?_, ?_⟩ <;> (simp [Instr.index, run_underlying h, asIntOf, go_sem, hs]; try go_simp)
theorem storeW2 (p j : Nat) (a b : Int) : ∀ w, (Instr.storeAt 81 (.pointer (some ⟨p, j, none⟩)) (.agg [.int .i64 a, .int .i64 b].toArray)).run Try.prog w = (storeCells ⟨p, j, none⟩ [.int .i64 a, .int .i64 b] 0).run Try.prog w := by intro w; go_simp
theorem i_wbefore (ao : Option Addr) (c : Nat) (C : List Nat) (wide : Nat) (i k : Nat) (w : World) (hv : SB w (.slice ao C.length c) C) (hi : i < 96) (hk : k < wide) (hwd : wide ≤ 96) (hin : i * wide + k ≤ C.length) :
    Calls Try.prog 156 #[.agg #[.slice ao C.length c, .int .i64 wide], .int .i64 i, .int .i64 k] w fun e w' => e = .returned (.tuple #[.int .i64 (wbI i (wThree geI C wide i k 3)), .int .i64 (wbK k (wThree geI C wide i k 3)), .bool (wThree geI C wide i k 3).isSome]) ∧ Below w.heap.size w w' := by
  have HV := Lib.hid hv
  clear hv
  have HIN := Lib.hid (fun p q h1 h2 h3 h4 h5 => Nat.lt_of_lt_of_le (before_lt (i := i) hk p q h1 h2 h3 h4 h5) hin)
  clear hin
  have hw1 : IntKind.i64.wrap ((i : Int) - 1) = (i : Int) - 1 := by rw [IntKind.wrap_i64]; omega
  have hw2 : IntKind.i64.wrap ((k : Int) - 1) = (k : Int) - 1 := by rw [IntKind.wrap_i64]; omega
  go_enter Try.func156, Try.ntmps156
  go_wp2_with fail
  go_loopw [29, 10] (fun n f wr => ∃ m : Nat, m ≤ 3 ∧ n = .int .i64 (m : Int) ∧ f = .bool (wThree geI C wide i k m).isSome ∧ Hid (BK wr w.heap.size [.slice ao C.length c, .int .i64 wide]) ∧ Hid (BK wr (w.heap.size + 1) [.int .i64 (wbI i (wThree geI C wide i k m)), .int .i64 (wbK k (wThree geI C wide i k m))]) ∧ Below w.heap.size w wr) (fun n _ _ => 3 - (intOf n).toNat)
  case atStart => exact ⟨0, Nat.zero_le _, rfl, rfl, Lib.hid (BK.alloc (BK.newAtW _ _ _ rfl) _), Lib.hid (BK.newAtW _ _ _ (by simp)), by (repeat (first | with_reducible exact Below.refl _ _ | with_reducible assumption | with_reducible refine below_drewN ?_ _ | with_reducible refine Below.drew ?_ | with_reducible refine Below.alloc ?_ (by first | omega | (simp; omega) | (simp; done) | (simp at *; omega)) _ | with_reducible refine Below.setCell ?_ (by first | omega | (simp; omega) | (simp; done) | (simp at *; omega)) _ | refine Below.trans ?_ (Below.mono (by with_reducible assumption) (by first | omega | (simp; omega) | (simp; done) | (simp at *; omega)))))⟩
  case round =>
    obtain ⟨m, hm, rfl, rfl, HA, HB, hb⟩ := hrel
    have hz := hb.size
    have hca := HA.out.cells
    have hcb := HB.out.cells
    have hfb := HB.out.fro
    have hla := HA.out.lt
    have hlb := HB.out.lt
    by_cases hlt : m < 3
    · have hm3 : m = 0 ∨ m = 1 ∨ m = 2 := by omega
      rcases hm3 with rfl | rfl | rfl
      · have HS := Lib.hid (show wThree geI C wide i k 1 = wUpd (wThree geI C wide i k 0) 0 (wVal geI C wide ((i : Int) - 1) ((k : Int))) from rfl)
        have HPL := Lib.hid (fun b (h : wThree geI C wide i k 0 = some b) => wThree_place neg1_ge.1 h)
        have HSO := Lib.hid (fun b (h : wThree geI C wide i k 0 = some b) => (wThree_some h).2.1)
        have IX := fun w => (idxW ((i : Int) - 1) k i ((k : Int) - 1) ((i : Int) - 1) ((k : Int) - 1) w).1
        have hgo : wThree geI C wide i k 0 = none := rfl
        simp only [hgo] at HB hcb ⊢
        cases hg : geI (wAt C wide ((i : Int) - 1) ((k : Int)))
        · have HG := Lib.hid hg
          have HNX := Lib.hid (show wThree geI C wide i k 1 = (none : Option (Nat × Nat)) by rw [HS.out, wVal, hg]; rfl)
          clear hg hgo HPL HSO HS
          go_wp2_with fail
          refine (i_wat ao c C wide _ _ _ (HV.out.keep (by (repeat (first | with_reducible exact Below.refl _ _ | with_reducible assumption | with_reducible refine below_drewN ?_ _ | with_reducible refine Below.drew ?_ | with_reducible refine Below.alloc ?_ (by first | omega | (simp; omega) | (simp; done) | (simp at *; omega)) _ | with_reducible refine Below.setCell ?_ (by first | omega | (simp; omega) | (simp; done) | (simp at *; omega)) _ | refine Below.trans ?_ (Below.mono (by with_reducible assumption) (by first | omega | (simp; omega) | (simp; done) | (simp at *; omega))))))) (by omega) (by omega) (by omega) (by omega) (by omega) (fun h4 h5 => HIN.out _ _ (by omega) (by omega) (by omega) h4 h5)).mono ?_
          rintro e w1 ⟨⟨r1, rfl, hr1, hcr1⟩, hb1⟩
          have HC1 := Lib.hid hcr1
          clear hcr1
          have HA1 := Lib.hid (show BK w1 w.heap.size [.slice ao C.length c, .int .i64 wide] from BK.keep (BK.alloc HA.out _) hb1)
          have HB1 := Lib.hid (show BK w1 (w.heap.size + 1) [.int .i64 (wbI i none), .int .i64 (wbK k none)] from BK.keep (BK.alloc HB.out _) hb1)
          have HP1 := Lib.hid (show BK w1 wr.heap.size [.int .i64 ((i : Int) - 1), .int .i64 ((k : Int))] from BK.keep (BK.newAtW _ _ _ rfl) hb1)
          have hbw1 : Below w.heap.size w w1 := (by (repeat (first | with_reducible exact Below.refl _ _ | with_reducible assumption | with_reducible refine below_drewN ?_ _ | with_reducible refine Below.drew ?_ | with_reducible refine Below.alloc ?_ (by first | omega | (simp; omega) | (simp; done) | (simp at *; omega)) _ | with_reducible refine Below.setCell ?_ (by first | omega | (simp; omega) | (simp; done) | (simp at *; omega)) _ | refine Below.trans ?_ (Below.mono (by with_reducible assumption) (by first | omega | (simp; omega) | (simp; done) | (simp at *; omega))))))
          have hz1 := hb1.size
          simp only [World.size_alloc] at hz1
          clear hca hcb hfb hb1 HA HB
          have hca := HA1.out.cells
          have hcb := HB1.out.cells
          have hcp := HP1.out.cells
          have hfb := HB1.out.fro
          have hla1 := HA1.out.lt
          have hlb1 := HB1.out.lt
          have HGE := Lib.hid (show fc .geq .f32 (cn .f32 r1) (cn .f32 0) = false by rw [HC1.out, cn0]; exact HG.out)
          go_wp2_with (first | (refine wpList_fc .f32 _ _ rfl rfl rfl ?_; rw [HGE.out]) | (refine wpList_storeAgg (us := [.int .i64 ((i : Int) - 1), .int .i64 ((k : Int))]) (storeW2 _ _ _ _) rfl rfl (by simp [Value.oneCell']) HB1.out (by simp) ?_; intro W5 hB5 hO5 hL5 hZ5 hG5))
          refine ⟨⟨1, by omega, by go_num, by rw [HNX.out]; rfl, HA1, ?_, hbw1⟩, by simp [intOf]⟩
          rw [HNX.out]; exact HB1
        · have HG := Lib.hid hg
          have HNX := Lib.hid (show wThree geI C wide i k 1 = some (0, wAt C wide ((i : Int) - 1) ((k : Int))) by rw [HS.out, wVal, hg]; rfl)
          clear hg hgo HPL HSO HS
          go_wp2_with fail
          refine (i_wat ao c C wide _ _ _ (HV.out.keep (by (repeat (first | with_reducible exact Below.refl _ _ | with_reducible assumption | with_reducible refine below_drewN ?_ _ | with_reducible refine Below.drew ?_ | with_reducible refine Below.alloc ?_ (by first | omega | (simp; omega) | (simp; done) | (simp at *; omega)) _ | with_reducible refine Below.setCell ?_ (by first | omega | (simp; omega) | (simp; done) | (simp at *; omega)) _ | refine Below.trans ?_ (Below.mono (by with_reducible assumption) (by first | omega | (simp; omega) | (simp; done) | (simp at *; omega))))))) (by omega) (by omega) (by omega) (by omega) (by omega) (fun h4 h5 => HIN.out _ _ (by omega) (by omega) (by omega) h4 h5)).mono ?_
          rintro e w1 ⟨⟨r1, rfl, hr1, hcr1⟩, hb1⟩
          have HC1 := Lib.hid hcr1
          clear hcr1
          have HA1 := Lib.hid (show BK w1 w.heap.size [.slice ao C.length c, .int .i64 wide] from BK.keep (BK.alloc HA.out _) hb1)
          have HB1 := Lib.hid (show BK w1 (w.heap.size + 1) [.int .i64 (wbI i none), .int .i64 (wbK k none)] from BK.keep (BK.alloc HB.out _) hb1)
          have HP1 := Lib.hid (show BK w1 wr.heap.size [.int .i64 ((i : Int) - 1), .int .i64 ((k : Int))] from BK.keep (BK.newAtW _ _ _ rfl) hb1)
          have hbw1 : Below w.heap.size w w1 := (by (repeat (first | with_reducible exact Below.refl _ _ | with_reducible assumption | with_reducible refine below_drewN ?_ _ | with_reducible refine Below.drew ?_ | with_reducible refine Below.alloc ?_ (by first | omega | (simp; omega) | (simp; done) | (simp at *; omega)) _ | with_reducible refine Below.setCell ?_ (by first | omega | (simp; omega) | (simp; done) | (simp at *; omega)) _ | refine Below.trans ?_ (Below.mono (by with_reducible assumption) (by first | omega | (simp; omega) | (simp; done) | (simp at *; omega))))))
          have hz1 := hb1.size
          simp only [World.size_alloc] at hz1
          clear hca hcb hfb hb1 HA HB
          have hca := HA1.out.cells
          have hcb := HB1.out.cells
          have hcp := HP1.out.cells
          have hfb := HB1.out.fro
          have hla1 := HA1.out.lt
          have hlb1 := HB1.out.lt
          have HGE := Lib.hid (show fc .geq .f32 (cn .f32 r1) (cn .f32 0) = true by rw [HC1.out, cn0]; exact HG.out)
          go_wp2_with (first | (refine wpList_fc .f32 _ _ rfl rfl rfl ?_; rw [HGE.out]) | (refine wpList_storeAgg (us := [.int .i64 ((i : Int) - 1), .int .i64 ((k : Int))]) (storeW2 _ _ _ _) rfl rfl (by simp [Value.oneCell']) HB1.out (by simp) ?_; intro W5 hB5 hO5 hL5 hZ5 hG5))
          simp only [setsAt, List.take_zero, List.nil_append, List.length_cons, List.length_nil, Nat.zero_add, List.drop_succ_cons, List.drop_nil, List.append_nil] at hB5
          refine ⟨⟨1, by omega, by go_num, by rw [HNX.out]; rfl, Lib.hid (hO5 _ _ HA1.out (by omega)), ?_, hL5 _ _ hbw1 (by omega)⟩, by simp [intOf]⟩
          rw [HNX.out]; exact Lib.hid hB5
      · have HS := Lib.hid (show wThree geI C wide i k 2 = wUpd (wThree geI C wide i k 1) 1 (wVal geI C wide ((i : Int)) ((k : Int) - 1)) from rfl)
        have HPL := Lib.hid (fun b (h : wThree geI C wide i k 1 = some b) => wThree_place neg1_ge.1 h)
        have HSO := Lib.hid (fun b (h : wThree geI C wide i k 1 = some b) => (wThree_some h).2.1)
        have IX := fun w => (idxW ((i : Int) - 1) k i ((k : Int) - 1) ((i : Int) - 1) ((k : Int) - 1) w).2.1
        generalize hgo : wThree geI C wide i k 1 = o at *
        cases o with
        | none =>
          cases hg : geI (wAt C wide ((i : Int)) ((k : Int) - 1))
          · have HG := Lib.hid hg
            have HNX := Lib.hid (show wThree geI C wide i k 2 = (none : Option (Nat × Nat)) by rw [HS.out, wVal, hg]; rfl)
            clear hg hgo HPL HSO HS
            go_wp2_with fail
            refine (i_wat ao c C wide _ _ _ (HV.out.keep (by (repeat (first | with_reducible exact Below.refl _ _ | with_reducible assumption | with_reducible refine below_drewN ?_ _ | with_reducible refine Below.drew ?_ | with_reducible refine Below.alloc ?_ (by first | omega | (simp; omega) | (simp; done) | (simp at *; omega)) _ | with_reducible refine Below.setCell ?_ (by first | omega | (simp; omega) | (simp; done) | (simp at *; omega)) _ | refine Below.trans ?_ (Below.mono (by with_reducible assumption) (by first | omega | (simp; omega) | (simp; done) | (simp at *; omega))))))) (by omega) (by omega) (by omega) (by omega) (by omega) (fun h4 h5 => HIN.out _ _ (by omega) (by omega) (by omega) h4 h5)).mono ?_
            rintro e w1 ⟨⟨r1, rfl, hr1, hcr1⟩, hb1⟩
            have HC1 := Lib.hid hcr1
            clear hcr1
            have HA1 := Lib.hid (show BK w1 w.heap.size [.slice ao C.length c, .int .i64 wide] from BK.keep (BK.alloc HA.out _) hb1)
            have HB1 := Lib.hid (show BK w1 (w.heap.size + 1) [.int .i64 (wbI i none), .int .i64 (wbK k none)] from BK.keep (BK.alloc HB.out _) hb1)
            have HP1 := Lib.hid (show BK w1 wr.heap.size [.int .i64 ((i : Int)), .int .i64 ((k : Int) - 1)] from BK.keep (BK.newAtW _ _ _ rfl) hb1)
            have hbw1 : Below w.heap.size w w1 := (by (repeat (first | with_reducible exact Below.refl _ _ | with_reducible assumption | with_reducible refine below_drewN ?_ _ | with_reducible refine Below.drew ?_ | with_reducible refine Below.alloc ?_ (by first | omega | (simp; omega) | (simp; done) | (simp at *; omega)) _ | with_reducible refine Below.setCell ?_ (by first | omega | (simp; omega) | (simp; done) | (simp at *; omega)) _ | refine Below.trans ?_ (Below.mono (by with_reducible assumption) (by first | omega | (simp; omega) | (simp; done) | (simp at *; omega))))))
            have hz1 := hb1.size
            simp only [World.size_alloc] at hz1
            clear hca hcb hfb hb1 HA HB
            have hca := HA1.out.cells
            have hcb := HB1.out.cells
            have hcp := HP1.out.cells
            have hfb := HB1.out.fro
            have hla1 := HA1.out.lt
            have hlb1 := HB1.out.lt
            have HGE := Lib.hid (show fc .geq .f32 (cn .f32 r1) (cn .f32 0) = false by rw [HC1.out, cn0]; exact HG.out)
            go_wp2_with (first | (refine wpList_fc .f32 _ _ rfl rfl rfl ?_; rw [HGE.out]) | (refine wpList_storeAgg (us := [.int .i64 ((i : Int)), .int .i64 ((k : Int) - 1)]) (storeW2 _ _ _ _) rfl rfl (by simp [Value.oneCell']) HB1.out (by simp) ?_; intro W5 hB5 hO5 hL5 hZ5 hG5))
            refine ⟨⟨2, by omega, by go_num, by rw [HNX.out]; rfl, HA1, ?_, hbw1⟩, by simp [intOf]⟩
            rw [HNX.out]; exact HB1
          · have HG := Lib.hid hg
            have HNX := Lib.hid (show wThree geI C wide i k 2 = some (1, wAt C wide ((i : Int)) ((k : Int) - 1)) by rw [HS.out, wVal, hg]; rfl)
            clear hg hgo HPL HSO HS
            go_wp2_with fail
            refine (i_wat ao c C wide _ _ _ (HV.out.keep (by (repeat (first | with_reducible exact Below.refl _ _ | with_reducible assumption | with_reducible refine below_drewN ?_ _ | with_reducible refine Below.drew ?_ | with_reducible refine Below.alloc ?_ (by first | omega | (simp; omega) | (simp; done) | (simp at *; omega)) _ | with_reducible refine Below.setCell ?_ (by first | omega | (simp; omega) | (simp; done) | (simp at *; omega)) _ | refine Below.trans ?_ (Below.mono (by with_reducible assumption) (by first | omega | (simp; omega) | (simp; done) | (simp at *; omega))))))) (by omega) (by omega) (by omega) (by omega) (by omega) (fun h4 h5 => HIN.out _ _ (by omega) (by omega) (by omega) h4 h5)).mono ?_
            rintro e w1 ⟨⟨r1, rfl, hr1, hcr1⟩, hb1⟩
            have HC1 := Lib.hid hcr1
            clear hcr1
            have HA1 := Lib.hid (show BK w1 w.heap.size [.slice ao C.length c, .int .i64 wide] from BK.keep (BK.alloc HA.out _) hb1)
            have HB1 := Lib.hid (show BK w1 (w.heap.size + 1) [.int .i64 (wbI i none), .int .i64 (wbK k none)] from BK.keep (BK.alloc HB.out _) hb1)
            have HP1 := Lib.hid (show BK w1 wr.heap.size [.int .i64 ((i : Int)), .int .i64 ((k : Int) - 1)] from BK.keep (BK.newAtW _ _ _ rfl) hb1)
            have hbw1 : Below w.heap.size w w1 := (by (repeat (first | with_reducible exact Below.refl _ _ | with_reducible assumption | with_reducible refine below_drewN ?_ _ | with_reducible refine Below.drew ?_ | with_reducible refine Below.alloc ?_ (by first | omega | (simp; omega) | (simp; done) | (simp at *; omega)) _ | with_reducible refine Below.setCell ?_ (by first | omega | (simp; omega) | (simp; done) | (simp at *; omega)) _ | refine Below.trans ?_ (Below.mono (by with_reducible assumption) (by first | omega | (simp; omega) | (simp; done) | (simp at *; omega))))))
            have hz1 := hb1.size
            simp only [World.size_alloc] at hz1
            clear hca hcb hfb hb1 HA HB
            have hca := HA1.out.cells
            have hcb := HB1.out.cells
            have hcp := HP1.out.cells
            have hfb := HB1.out.fro
            have hla1 := HA1.out.lt
            have hlb1 := HB1.out.lt
            have HGE := Lib.hid (show fc .geq .f32 (cn .f32 r1) (cn .f32 0) = true by rw [HC1.out, cn0]; exact HG.out)
            go_wp2_with (first | (refine wpList_fc .f32 _ _ rfl rfl rfl ?_; rw [HGE.out]) | (refine wpList_storeAgg (us := [.int .i64 ((i : Int)), .int .i64 ((k : Int) - 1)]) (storeW2 _ _ _ _) rfl rfl (by simp [Value.oneCell']) HB1.out (by simp) ?_; intro W5 hB5 hO5 hL5 hZ5 hG5))
            simp only [setsAt, List.take_zero, List.nil_append, List.length_cons, List.length_nil, Nat.zero_add, List.drop_succ_cons, List.drop_nil, List.append_nil] at hB5
            refine ⟨⟨2, by omega, by go_num, by rw [HNX.out]; rfl, Lib.hid (hO5 _ _ HA1.out (by omega)), ?_, hL5 _ _ hbw1 (by omega)⟩, by simp [intOf]⟩
            rw [HNX.out]; exact Lib.hid hB5
        | some b =>
          obtain ⟨hbi0, hbk0, hbi1, hbk1, hbs⟩ := HPL.out b rfl
          have HBV := Lib.hid (HSO.out b rfl)
          have EB1 : wbI (i : Int) (some b) = candI b.1 i := rfl
          have EB2 : wbK (k : Int) (some b) = candK b.1 k := rfl
          rw [EB1, EB2] at HB hcb
          generalize candI b.1 (i : Int) = bi at *
          generalize candK b.1 (k : Int) = bk at *
          have EC1 := Lib.hid EB1
          have EC2 := Lib.hid EB2
          clear EB1 EB2
          cases hg : geI (wAt C wide ((i : Int)) ((k : Int) - 1))
          · have HG := Lib.hid hg
            have HNX := Lib.hid (show wThree geI C wide i k 2 = (some b) by rw [HS.out, wVal, hg]; rfl)
            clear hg hgo HPL HSO HS
            go_wp2_with fail
            refine (i_wat ao c C wide _ _ _ (HV.out.keep (by (repeat (first | with_reducible exact Below.refl _ _ | with_reducible assumption | with_reducible refine below_drewN ?_ _ | with_reducible refine Below.drew ?_ | with_reducible refine Below.alloc ?_ (by first | omega | (simp; omega) | (simp; done) | (simp at *; omega)) _ | with_reducible refine Below.setCell ?_ (by first | omega | (simp; omega) | (simp; done) | (simp at *; omega)) _ | refine Below.trans ?_ (Below.mono (by with_reducible assumption) (by first | omega | (simp; omega) | (simp; done) | (simp at *; omega))))))) (by omega) (by omega) (by omega) (by omega) (by omega) (fun h4 h5 => HIN.out _ _ (by omega) (by omega) (by omega) h4 h5)).mono ?_
            rintro e w1 ⟨⟨r1, rfl, hr1, hcr1⟩, hb1⟩
            have HC1 := Lib.hid hcr1
            clear hcr1
            have HA1 := Lib.hid (show BK w1 w.heap.size [.slice ao C.length c, .int .i64 wide] from BK.keep (BK.alloc HA.out _) hb1)
            have HB1 := Lib.hid (show BK w1 (w.heap.size + 1) [.int .i64 bi, .int .i64 bk] from BK.keep (BK.alloc HB.out _) hb1)
            have HP1 := Lib.hid (show BK w1 wr.heap.size [.int .i64 ((i : Int)), .int .i64 ((k : Int) - 1)] from BK.keep (BK.newAtW _ _ _ rfl) hb1)
            have hbw1 : Below w.heap.size w w1 := (by (repeat (first | with_reducible exact Below.refl _ _ | with_reducible assumption | with_reducible refine below_drewN ?_ _ | with_reducible refine Below.drew ?_ | with_reducible refine Below.alloc ?_ (by first | omega | (simp; omega) | (simp; done) | (simp at *; omega)) _ | with_reducible refine Below.setCell ?_ (by first | omega | (simp; omega) | (simp; done) | (simp at *; omega)) _ | refine Below.trans ?_ (Below.mono (by with_reducible assumption) (by first | omega | (simp; omega) | (simp; done) | (simp at *; omega))))))
            have hz1 := hb1.size
            simp only [World.size_alloc] at hz1
            clear hca hcb hfb hb1 HA HB
            have hca := HA1.out.cells
            have hcb := HB1.out.cells
            have hcp := HP1.out.cells
            have hfb := HB1.out.fro
            have hla1 := HA1.out.lt
            have hlb1 := HB1.out.lt
            have HGE := Lib.hid (show fc .geq .f32 (cn .f32 r1) (cn .f32 0) = false by rw [HC1.out, cn0]; exact HG.out)
            go_wp2_with (first | (refine wpList_fc .f32 _ _ rfl rfl rfl ?_; rw [HGE.out]) | (refine wpList_storeAgg (us := [.int .i64 ((i : Int)), .int .i64 ((k : Int) - 1)]) (storeW2 _ _ _ _) rfl rfl (by simp [Value.oneCell']) HB1.out (by simp) ?_; intro W5 hB5 hO5 hL5 hZ5 hG5))
            refine ⟨⟨2, by omega, by go_num, by rw [HNX.out]; rfl, HA1, ?_, hbw1⟩, by simp [intOf]⟩
            rw [HNX.out, EC1.out, EC2.out]; exact HB1
          · have HG := Lib.hid hg
            cases hl : fc .lss .f32 (wAt C wide ((i : Int)) ((k : Int) - 1)) b.2
            · have HL := Lib.hid hl
              have HNX := Lib.hid (show wThree geI C wide i k 2 = some b by rw [HS.out, wVal, hg]; show (if fc .lss .f32 _ b.2 = true then _ else _) = _; rw [hl]; rfl)
              clear hl
              clear hg hgo HPL HSO HS
              go_wp2_with fail
              refine (i_wat ao c C wide _ _ _ (HV.out.keep (by (repeat (first | with_reducible exact Below.refl _ _ | with_reducible assumption | with_reducible refine below_drewN ?_ _ | with_reducible refine Below.drew ?_ | with_reducible refine Below.alloc ?_ (by first | omega | (simp; omega) | (simp; done) | (simp at *; omega)) _ | with_reducible refine Below.setCell ?_ (by first | omega | (simp; omega) | (simp; done) | (simp at *; omega)) _ | refine Below.trans ?_ (Below.mono (by with_reducible assumption) (by first | omega | (simp; omega) | (simp; done) | (simp at *; omega))))))) (by omega) (by omega) (by omega) (by omega) (by omega) (fun h4 h5 => HIN.out _ _ (by omega) (by omega) (by omega) h4 h5)).mono ?_
              rintro e w1 ⟨⟨r1, rfl, hr1, hcr1⟩, hb1⟩
              have HC1 := Lib.hid hcr1
              clear hcr1
              have HA1 := Lib.hid (show BK w1 w.heap.size [.slice ao C.length c, .int .i64 wide] from BK.keep (BK.alloc HA.out _) hb1)
              have HB1 := Lib.hid (show BK w1 (w.heap.size + 1) [.int .i64 bi, .int .i64 bk] from BK.keep (BK.alloc HB.out _) hb1)
              have HP1 := Lib.hid (show BK w1 wr.heap.size [.int .i64 ((i : Int)), .int .i64 ((k : Int) - 1)] from BK.keep (BK.newAtW _ _ _ rfl) hb1)
              have hbw1 : Below w.heap.size w w1 := (by (repeat (first | with_reducible exact Below.refl _ _ | with_reducible assumption | with_reducible refine below_drewN ?_ _ | with_reducible refine Below.drew ?_ | with_reducible refine Below.alloc ?_ (by first | omega | (simp; omega) | (simp; done) | (simp at *; omega)) _ | with_reducible refine Below.setCell ?_ (by first | omega | (simp; omega) | (simp; done) | (simp at *; omega)) _ | refine Below.trans ?_ (Below.mono (by with_reducible assumption) (by first | omega | (simp; omega) | (simp; done) | (simp at *; omega))))))
              have hz1 := hb1.size
              simp only [World.size_alloc] at hz1
              clear hca hcb hfb hb1 HA HB
              have hca := HA1.out.cells
              have hcb := HB1.out.cells
              have hcp := HP1.out.cells
              have hfb := HB1.out.fro
              have hla1 := HA1.out.lt
              have hlb1 := HB1.out.lt
              have HGE := Lib.hid (show fc .geq .f32 (cn .f32 r1) (cn .f32 0) = true by rw [HC1.out, cn0]; exact HG.out)
              go_wp2_with (first | (refine wpList_fc .f32 _ _ rfl rfl rfl ?_; rw [HGE.out]))
              refine (i_wat ao c C wide _ _ _ (HV.out.keep (by (repeat (first | with_reducible exact Below.refl _ _ | with_reducible assumption | with_reducible refine below_drewN ?_ _ | with_reducible refine Below.drew ?_ | with_reducible refine Below.alloc ?_ (by first | omega | (simp; omega) | (simp; done) | (simp at *; omega)) _ | with_reducible refine Below.setCell ?_ (by first | omega | (simp; omega) | (simp; done) | (simp at *; omega)) _ | refine Below.trans ?_ (Below.mono (by with_reducible assumption) (by first | omega | (simp; omega) | (simp; done) | (simp at *; omega))))))) (by omega) (by omega) (by omega) (by omega) (by omega) (fun h4 h5 => HIN.out _ _ (by omega) (by omega) (by omega) h4 h5)).mono ?_
              rintro e w2 ⟨⟨r2, rfl, hr2, hcr2⟩, hb2⟩
              have HLE := Lib.hid (show fc .lss .f32 (cn .f32 r1) (cn .f32 r2) = false by rw [HC1.out, hcr2, ← HBV.out]; exact HL.out)
              have HA2 := Lib.hid (HA1.out.keep hb2)
              have HB2 := Lib.hid (HB1.out.keep hb2)
              have HP2 := Lib.hid (HP1.out.keep hb2)
              have hbw2 : Below w.heap.size w w2 := (by (repeat (first | with_reducible exact Below.refl _ _ | with_reducible assumption | with_reducible refine below_drewN ?_ _ | with_reducible refine Below.drew ?_ | with_reducible refine Below.alloc ?_ (by first | omega | (simp; omega) | (simp; done) | (simp at *; omega)) _ | with_reducible refine Below.setCell ?_ (by first | omega | (simp; omega) | (simp; done) | (simp at *; omega)) _ | refine Below.trans ?_ (Below.mono (by with_reducible assumption) (by first | omega | (simp; omega) | (simp; done) | (simp at *; omega))))))
              have hz2 := hb2.size
              clear hca hcb hcp hfb hb2 HA1 HB1 HP1 hcr2
              have hca := HA2.out.cells
              have hcb := HB2.out.cells
              have hcp := HP2.out.cells
              have hfb := HB2.out.fro
              go_wp2_with (first | (refine wpList_fc_g rfl .f32 _ _ rfl rfl rfl ?_; rw [HLE.out]) | (refine wpList_storeAgg (us := [.int .i64 ((i : Int)), .int .i64 ((k : Int) - 1)]) (storeW2 _ _ _ _) rfl rfl (by simp [Value.oneCell']) HB2.out (by simp) ?_; intro W5 hB5 hO5 hL5 hZ5 hG5))
              refine ⟨⟨2, by omega, by go_num, by rw [HNX.out]; rfl, HA2, ?_, hbw2⟩, by simp [intOf]⟩
              rw [HNX.out, EC1.out, EC2.out]; exact HB2
            · have HL := Lib.hid hl
              have HNX := Lib.hid (show wThree geI C wide i k 2 = some (1, wAt C wide ((i : Int)) ((k : Int) - 1)) by rw [HS.out, wVal, hg]; show (if fc .lss .f32 _ b.2 = true then _ else _) = _; rw [hl]; rfl)
              clear hl
              clear hg hgo HPL HSO HS
              go_wp2_with fail
              refine (i_wat ao c C wide _ _ _ (HV.out.keep (by (repeat (first | with_reducible exact Below.refl _ _ | with_reducible assumption | with_reducible refine below_drewN ?_ _ | with_reducible refine Below.drew ?_ | with_reducible refine Below.alloc ?_ (by first | omega | (simp; omega) | (simp; done) | (simp at *; omega)) _ | with_reducible refine Below.setCell ?_ (by first | omega | (simp; omega) | (simp; done) | (simp at *; omega)) _ | refine Below.trans ?_ (Below.mono (by with_reducible assumption) (by first | omega | (simp; omega) | (simp; done) | (simp at *; omega))))))) (by omega) (by omega) (by omega) (by omega) (by omega) (fun h4 h5 => HIN.out _ _ (by omega) (by omega) (by omega) h4 h5)).mono ?_
              rintro e w1 ⟨⟨r1, rfl, hr1, hcr1⟩, hb1⟩
              have HC1 := Lib.hid hcr1
              clear hcr1
              have HA1 := Lib.hid (show BK w1 w.heap.size [.slice ao C.length c, .int .i64 wide] from BK.keep (BK.alloc HA.out _) hb1)
              have HB1 := Lib.hid (show BK w1 (w.heap.size + 1) [.int .i64 bi, .int .i64 bk] from BK.keep (BK.alloc HB.out _) hb1)
              have HP1 := Lib.hid (show BK w1 wr.heap.size [.int .i64 ((i : Int)), .int .i64 ((k : Int) - 1)] from BK.keep (BK.newAtW _ _ _ rfl) hb1)
              have hbw1 : Below w.heap.size w w1 := (by (repeat (first | with_reducible exact Below.refl _ _ | with_reducible assumption | with_reducible refine below_drewN ?_ _ | with_reducible refine Below.drew ?_ | with_reducible refine Below.alloc ?_ (by first | omega | (simp; omega) | (simp; done) | (simp at *; omega)) _ | with_reducible refine Below.setCell ?_ (by first | omega | (simp; omega) | (simp; done) | (simp at *; omega)) _ | refine Below.trans ?_ (Below.mono (by with_reducible assumption) (by first | omega | (simp; omega) | (simp; done) | (simp at *; omega))))))
              have hz1 := hb1.size
              simp only [World.size_alloc] at hz1
              clear hca hcb hfb hb1 HA HB
              have hca := HA1.out.cells
              have hcb := HB1.out.cells
              have hcp := HP1.out.cells
              have hfb := HB1.out.fro
              have hla1 := HA1.out.lt
              have hlb1 := HB1.out.lt
              have HGE := Lib.hid (show fc .geq .f32 (cn .f32 r1) (cn .f32 0) = true by rw [HC1.out, cn0]; exact HG.out)
              go_wp2_with (first | (refine wpList_fc .f32 _ _ rfl rfl rfl ?_; rw [HGE.out]))
              refine (i_wat ao c C wide _ _ _ (HV.out.keep (by (repeat (first | with_reducible exact Below.refl _ _ | with_reducible assumption | with_reducible refine below_drewN ?_ _ | with_reducible refine Below.drew ?_ | with_reducible refine Below.alloc ?_ (by first | omega | (simp; omega) | (simp; done) | (simp at *; omega)) _ | with_reducible refine Below.setCell ?_ (by first | omega | (simp; omega) | (simp; done) | (simp at *; omega)) _ | refine Below.trans ?_ (Below.mono (by with_reducible assumption) (by first | omega | (simp; omega) | (simp; done) | (simp at *; omega))))))) (by omega) (by omega) (by omega) (by omega) (by omega) (fun h4 h5 => HIN.out _ _ (by omega) (by omega) (by omega) h4 h5)).mono ?_
              rintro e w2 ⟨⟨r2, rfl, hr2, hcr2⟩, hb2⟩
              have HLE := Lib.hid (show fc .lss .f32 (cn .f32 r1) (cn .f32 r2) = true by rw [HC1.out, hcr2, ← HBV.out]; exact HL.out)
              have HA2 := Lib.hid (HA1.out.keep hb2)
              have HB2 := Lib.hid (HB1.out.keep hb2)
              have HP2 := Lib.hid (HP1.out.keep hb2)
              have hbw2 : Below w.heap.size w w2 := (by (repeat (first | with_reducible exact Below.refl _ _ | with_reducible assumption | with_reducible refine below_drewN ?_ _ | with_reducible refine Below.drew ?_ | with_reducible refine Below.alloc ?_ (by first | omega | (simp; omega) | (simp; done) | (simp at *; omega)) _ | with_reducible refine Below.setCell ?_ (by first | omega | (simp; omega) | (simp; done) | (simp at *; omega)) _ | refine Below.trans ?_ (Below.mono (by with_reducible assumption) (by first | omega | (simp; omega) | (simp; done) | (simp at *; omega))))))
              have hz2 := hb2.size
              clear hca hcb hcp hfb hb2 HA1 HB1 HP1 hcr2
              have hca := HA2.out.cells
              have hcb := HB2.out.cells
              have hcp := HP2.out.cells
              have hfb := HB2.out.fro
              go_wp2_with (first | (refine wpList_fc_g rfl .f32 _ _ rfl rfl rfl ?_; rw [HLE.out]) | (refine wpList_storeAgg (us := [.int .i64 ((i : Int)), .int .i64 ((k : Int) - 1)]) (storeW2 _ _ _ _) rfl rfl (by simp [Value.oneCell']) HB2.out (by simp) ?_; intro W5 hB5 hO5 hL5 hZ5 hG5))
              simp only [setsAt, List.take_zero, List.nil_append, List.length_cons, List.length_nil, Nat.zero_add, List.drop_succ_cons, List.drop_nil, List.append_nil] at hB5
              refine ⟨⟨2, by omega, by go_num, by rw [HNX.out]; rfl, Lib.hid (hO5 _ _ HA2.out (by omega)), ?_, hL5 _ _ hbw2 (by omega)⟩, by simp [intOf]⟩
              rw [HNX.out]; exact Lib.hid hB5
      · have HS := Lib.hid (show wThree geI C wide i k 3 = wUpd (wThree geI C wide i k 2) 2 (wVal geI C wide ((i : Int) - 1) ((k : Int) - 1)) from rfl)
        have HPL := Lib.hid (fun b (h : wThree geI C wide i k 2 = some b) => wThree_place neg1_ge.1 h)
        have HSO := Lib.hid (fun b (h : wThree geI C wide i k 2 = some b) => (wThree_some h).2.1)
        have IX := fun w => (idxW ((i : Int) - 1) k i ((k : Int) - 1) ((i : Int) - 1) ((k : Int) - 1) w).2.2
        generalize hgo : wThree geI C wide i k 2 = o at *
        cases o with
        | none =>
          cases hg : geI (wAt C wide ((i : Int) - 1) ((k : Int) - 1))
          · have HG := Lib.hid hg
            have HNX := Lib.hid (show wThree geI C wide i k 3 = (none : Option (Nat × Nat)) by rw [HS.out, wVal, hg]; rfl)
            clear hg hgo HPL HSO HS
            go_wp2_with fail
            refine (i_wat ao c C wide _ _ _ (HV.out.keep (by (repeat (first | with_reducible exact Below.refl _ _ | with_reducible assumption | with_reducible refine below_drewN ?_ _ | with_reducible refine Below.drew ?_ | with_reducible refine Below.alloc ?_ (by first | omega | (simp; omega) | (simp; done) | (simp at *; omega)) _ | with_reducible refine Below.setCell ?_ (by first | omega | (simp; omega) | (simp; done) | (simp at *; omega)) _ | refine Below.trans ?_ (Below.mono (by with_reducible assumption) (by first | omega | (simp; omega) | (simp; done) | (simp at *; omega))))))) (by omega) (by omega) (by omega) (by omega) (by omega) (fun h4 h5 => HIN.out _ _ (by omega) (by omega) (by omega) h4 h5)).mono ?_
            rintro e w1 ⟨⟨r1, rfl, hr1, hcr1⟩, hb1⟩
            have HC1 := Lib.hid hcr1
            clear hcr1
            have HA1 := Lib.hid (show BK w1 w.heap.size [.slice ao C.length c, .int .i64 wide] from BK.keep (BK.alloc HA.out _) hb1)
            have HB1 := Lib.hid (show BK w1 (w.heap.size + 1) [.int .i64 (wbI i none), .int .i64 (wbK k none)] from BK.keep (BK.alloc HB.out _) hb1)
            have HP1 := Lib.hid (show BK w1 wr.heap.size [.int .i64 ((i : Int) - 1), .int .i64 ((k : Int) - 1)] from BK.keep (BK.newAtW _ _ _ rfl) hb1)
            have hbw1 : Below w.heap.size w w1 := (by (repeat (first | with_reducible exact Below.refl _ _ | with_reducible assumption | with_reducible refine below_drewN ?_ _ | with_reducible refine Below.drew ?_ | with_reducible refine Below.alloc ?_ (by first | omega | (simp; omega) | (simp; done) | (simp at *; omega)) _ | with_reducible refine Below.setCell ?_ (by first | omega | (simp; omega) | (simp; done) | (simp at *; omega)) _ | refine Below.trans ?_ (Below.mono (by with_reducible assumption) (by first | omega | (simp; omega) | (simp; done) | (simp at *; omega))))))
            have hz1 := hb1.size
            simp only [World.size_alloc] at hz1
            clear hca hcb hfb hb1 HA HB
            have hca := HA1.out.cells
            have hcb := HB1.out.cells
            have hcp := HP1.out.cells
            have hfb := HB1.out.fro
            have hla1 := HA1.out.lt
            have hlb1 := HB1.out.lt
            have HGE := Lib.hid (show fc .geq .f32 (cn .f32 r1) (cn .f32 0) = false by rw [HC1.out, cn0]; exact HG.out)
            go_wp2_with (first | (refine wpList_fc .f32 _ _ rfl rfl rfl ?_; rw [HGE.out]) | (refine wpList_storeAgg (us := [.int .i64 ((i : Int) - 1), .int .i64 ((k : Int) - 1)]) (storeW2 _ _ _ _) rfl rfl (by simp [Value.oneCell']) HB1.out (by simp) ?_; intro W5 hB5 hO5 hL5 hZ5 hG5))
            refine ⟨⟨3, by omega, by go_num, by rw [HNX.out]; rfl, HA1, ?_, hbw1⟩, by simp [intOf]⟩
            rw [HNX.out]; exact HB1
          · have HG := Lib.hid hg
            have HNX := Lib.hid (show wThree geI C wide i k 3 = some (2, wAt C wide ((i : Int) - 1) ((k : Int) - 1)) by rw [HS.out, wVal, hg]; rfl)
            clear hg hgo HPL HSO HS
            go_wp2_with fail
            refine (i_wat ao c C wide _ _ _ (HV.out.keep (by (repeat (first | with_reducible exact Below.refl _ _ | with_reducible assumption | with_reducible refine below_drewN ?_ _ | with_reducible refine Below.drew ?_ | with_reducible refine Below.alloc ?_ (by first | omega | (simp; omega) | (simp; done) | (simp at *; omega)) _ | with_reducible refine Below.setCell ?_ (by first | omega | (simp; omega) | (simp; done) | (simp at *; omega)) _ | refine Below.trans ?_ (Below.mono (by with_reducible assumption) (by first | omega | (simp; omega) | (simp; done) | (simp at *; omega))))))) (by omega) (by omega) (by omega) (by omega) (by omega) (fun h4 h5 => HIN.out _ _ (by omega) (by omega) (by omega) h4 h5)).mono ?_
            rintro e w1 ⟨⟨r1, rfl, hr1, hcr1⟩, hb1⟩
            have HC1 := Lib.hid hcr1
            clear hcr1
            have HA1 := Lib.hid (show BK w1 w.heap.size [.slice ao C.length c, .int .i64 wide] from BK.keep (BK.alloc HA.out _) hb1)
            have HB1 := Lib.hid (show BK w1 (w.heap.size + 1) [.int .i64 (wbI i none), .int .i64 (wbK k none)] from BK.keep (BK.alloc HB.out _) hb1)
            have HP1 := Lib.hid (show BK w1 wr.heap.size [.int .i64 ((i : Int) - 1), .int .i64 ((k : Int) - 1)] from BK.keep (BK.newAtW _ _ _ rfl) hb1)
            have hbw1 : Below w.heap.size w w1 := (by (repeat (first | with_reducible exact Below.refl _ _ | with_reducible assumption | with_reducible refine below_drewN ?_ _ | with_reducible refine Below.drew ?_ | with_reducible refine Below.alloc ?_ (by first | omega | (simp; omega) | (simp; done) | (simp at *; omega)) _ | with_reducible refine Below.setCell ?_ (by first | omega | (simp; omega) | (simp; done) | (simp at *; omega)) _ | refine Below.trans ?_ (Below.mono (by with_reducible assumption) (by first | omega | (simp; omega) | (simp; done) | (simp at *; omega))))))
            have hz1 := hb1.size
            simp only [World.size_alloc] at hz1
            clear hca hcb hfb hb1 HA HB
            have hca := HA1.out.cells
            have hcb := HB1.out.cells
            have hcp := HP1.out.cells
            have hfb := HB1.out.fro
            have hla1 := HA1.out.lt
            have hlb1 := HB1.out.lt
            have HGE := Lib.hid (show fc .geq .f32 (cn .f32 r1) (cn .f32 0) = true by rw [HC1.out, cn0]; exact HG.out)
            go_wp2_with (first | (refine wpList_fc .f32 _ _ rfl rfl rfl ?_; rw [HGE.out]) | (refine wpList_storeAgg (us := [.int .i64 ((i : Int) - 1), .int .i64 ((k : Int) - 1)]) (storeW2 _ _ _ _) rfl rfl (by simp [Value.oneCell']) HB1.out (by simp) ?_; intro W5 hB5 hO5 hL5 hZ5 hG5))
            simp only [setsAt, List.take_zero, List.nil_append, List.length_cons, List.length_nil, Nat.zero_add, List.drop_succ_cons, List.drop_nil, List.append_nil] at hB5
            refine ⟨⟨3, by omega, by go_num, by rw [HNX.out]; rfl, Lib.hid (hO5 _ _ HA1.out (by omega)), ?_, hL5 _ _ hbw1 (by omega)⟩, by simp [intOf]⟩
            rw [HNX.out]; exact Lib.hid hB5
        | some b =>
          obtain ⟨hbi0, hbk0, hbi1, hbk1, hbs⟩ := HPL.out b rfl
          have HBV := Lib.hid (HSO.out b rfl)
          have EB1 : wbI (i : Int) (some b) = candI b.1 i := rfl
          have EB2 : wbK (k : Int) (some b) = candK b.1 k := rfl
          rw [EB1, EB2] at HB hcb
          generalize candI b.1 (i : Int) = bi at *
          generalize candK b.1 (k : Int) = bk at *
          have EC1 := Lib.hid EB1
          have EC2 := Lib.hid EB2
          clear EB1 EB2
          cases hg : geI (wAt C wide ((i : Int) - 1) ((k : Int) - 1))
          · have HG := Lib.hid hg
            have HNX := Lib.hid (show wThree geI C wide i k 3 = (some b) by rw [HS.out, wVal, hg]; rfl)
            clear hg hgo HPL HSO HS
            go_wp2_with fail
            refine (i_wat ao c C wide _ _ _ (HV.out.keep (by (repeat (first | with_reducible exact Below.refl _ _ | with_reducible assumption | with_reducible refine below_drewN ?_ _ | with_reducible refine Below.drew ?_ | with_reducible refine Below.alloc ?_ (by first | omega | (simp; omega) | (simp; done) | (simp at *; omega)) _ | with_reducible refine Below.setCell ?_ (by first | omega | (simp; omega) | (simp; done) | (simp at *; omega)) _ | refine Below.trans ?_ (Below.mono (by with_reducible assumption) (by first | omega | (simp; omega) | (simp; done) | (simp at *; omega))))))) (by omega) (by omega) (by omega) (by omega) (by omega) (fun h4 h5 => HIN.out _ _ (by omega) (by omega) (by omega) h4 h5)).mono ?_
            rintro e w1 ⟨⟨r1, rfl, hr1, hcr1⟩, hb1⟩
            have HC1 := Lib.hid hcr1
            clear hcr1
            have HA1 := Lib.hid (show BK w1 w.heap.size [.slice ao C.length c, .int .i64 wide] from BK.keep (BK.alloc HA.out _) hb1)
            have HB1 := Lib.hid (show BK w1 (w.heap.size + 1) [.int .i64 bi, .int .i64 bk] from BK.keep (BK.alloc HB.out _) hb1)
            have HP1 := Lib.hid (show BK w1 wr.heap.size [.int .i64 ((i : Int) - 1), .int .i64 ((k : Int) - 1)] from BK.keep (BK.newAtW _ _ _ rfl) hb1)
            have hbw1 : Below w.heap.size w w1 := (by (repeat (first | with_reducible exact Below.refl _ _ | with_reducible assumption | with_reducible refine below_drewN ?_ _ | with_reducible refine Below.drew ?_ | with_reducible refine Below.alloc ?_ (by first | omega | (simp; omega) | (simp; done) | (simp at *; omega)) _ | with_reducible refine Below.setCell ?_ (by first | omega | (simp; omega) | (simp; done) | (simp at *; omega)) _ | refine Below.trans ?_ (Below.mono (by with_reducible assumption) (by first | omega | (simp; omega) | (simp; done) | (simp at *; omega))))))
            have hz1 := hb1.size
            simp only [World.size_alloc] at hz1
            clear hca hcb hfb hb1 HA HB
            have hca := HA1.out.cells
            have hcb := HB1.out.cells
            have hcp := HP1.out.cells
            have hfb := HB1.out.fro
            have hla1 := HA1.out.lt
            have hlb1 := HB1.out.lt
            have HGE := Lib.hid (show fc .geq .f32 (cn .f32 r1) (cn .f32 0) = false by rw [HC1.out, cn0]; exact HG.out)
            go_wp2_with (first | (refine wpList_fc .f32 _ _ rfl rfl rfl ?_; rw [HGE.out]) | (refine wpList_storeAgg (us := [.int .i64 ((i : Int) - 1), .int .i64 ((k : Int) - 1)]) (storeW2 _ _ _ _) rfl rfl (by simp [Value.oneCell']) HB1.out (by simp) ?_; intro W5 hB5 hO5 hL5 hZ5 hG5))
            refine ⟨⟨3, by omega, by go_num, by rw [HNX.out]; rfl, HA1, ?_, hbw1⟩, by simp [intOf]⟩
            rw [HNX.out, EC1.out, EC2.out]; exact HB1
          · have HG := Lib.hid hg
            cases hl : fc .lss .f32 (wAt C wide ((i : Int) - 1) ((k : Int) - 1)) b.2
            · have HL := Lib.hid hl
              have HNX := Lib.hid (show wThree geI C wide i k 3 = some b by rw [HS.out, wVal, hg]; show (if fc .lss .f32 _ b.2 = true then _ else _) = _; rw [hl]; rfl)
              clear hl
              clear hg hgo HPL HSO HS
              go_wp2_with fail
              refine (i_wat ao c C wide _ _ _ (HV.out.keep (by (repeat (first | with_reducible exact Below.refl _ _ | with_reducible assumption | with_reducible refine below_drewN ?_ _ | with_reducible refine Below.drew ?_ | with_reducible refine Below.alloc ?_ (by first | omega | (simp; omega) | (simp; done) | (simp at *; omega)) _ | with_reducible refine Below.setCell ?_ (by first | omega | (simp; omega) | (simp; done) | (simp at *; omega)) _ | refine Below.trans ?_ (Below.mono (by with_reducible assumption) (by first | omega | (simp; omega) | (simp; done) | (simp at *; omega))))))) (by omega) (by omega) (by omega) (by omega) (by omega) (fun h4 h5 => HIN.out _ _ (by omega) (by omega) (by omega) h4 h5)).mono ?_
              rintro e w1 ⟨⟨r1, rfl, hr1, hcr1⟩, hb1⟩
              have HC1 := Lib.hid hcr1
              clear hcr1
              have HA1 := Lib.hid (show BK w1 w.heap.size [.slice ao C.length c, .int .i64 wide] from BK.keep (BK.alloc HA.out _) hb1)
              have HB1 := Lib.hid (show BK w1 (w.heap.size + 1) [.int .i64 bi, .int .i64 bk] from BK.keep (BK.alloc HB.out _) hb1)
              have HP1 := Lib.hid (show BK w1 wr.heap.size [.int .i64 ((i : Int) - 1), .int .i64 ((k : Int) - 1)] from BK.keep (BK.newAtW _ _ _ rfl) hb1)
              have hbw1 : Below w.heap.size w w1 := (by (repeat (first | with_reducible exact Below.refl _ _ | with_reducible assumption | with_reducible refine below_drewN ?_ _ | with_reducible refine Below.drew ?_ | with_reducible refine Below.alloc ?_ (by first | omega | (simp; omega) | (simp; done) | (simp at *; omega)) _ | with_reducible refine Below.setCell ?_ (by first | omega | (simp; omega) | (simp; done) | (simp at *; omega)) _ | refine Below.trans ?_ (Below.mono (by with_reducible assumption) (by first | omega | (simp; omega) | (simp; done) | (simp at *; omega))))))
              have hz1 := hb1.size
              simp only [World.size_alloc] at hz1
              clear hca hcb hfb hb1 HA HB
              have hca := HA1.out.cells
              have hcb := HB1.out.cells
              have hcp := HP1.out.cells
              have hfb := HB1.out.fro
              have hla1 := HA1.out.lt
              have hlb1 := HB1.out.lt
              have HGE := Lib.hid (show fc .geq .f32 (cn .f32 r1) (cn .f32 0) = true by rw [HC1.out, cn0]; exact HG.out)
              go_wp2_with (first | (refine wpList_fc .f32 _ _ rfl rfl rfl ?_; rw [HGE.out]))
              refine (i_wat ao c C wide _ _ _ (HV.out.keep (by (repeat (first | with_reducible exact Below.refl _ _ | with_reducible assumption | with_reducible refine below_drewN ?_ _ | with_reducible refine Below.drew ?_ | with_reducible refine Below.alloc ?_ (by first | omega | (simp; omega) | (simp; done) | (simp at *; omega)) _ | with_reducible refine Below.setCell ?_ (by first | omega | (simp; omega) | (simp; done) | (simp at *; omega)) _ | refine Below.trans ?_ (Below.mono (by with_reducible assumption) (by first | omega | (simp; omega) | (simp; done) | (simp at *; omega))))))) (by omega) (by omega) (by omega) (by omega) (by omega) (fun h4 h5 => HIN.out _ _ (by omega) (by omega) (by omega) h4 h5)).mono ?_
              rintro e w2 ⟨⟨r2, rfl, hr2, hcr2⟩, hb2⟩
              have HLE := Lib.hid (show fc .lss .f32 (cn .f32 r1) (cn .f32 r2) = false by rw [HC1.out, hcr2, ← HBV.out]; exact HL.out)
              have HA2 := Lib.hid (HA1.out.keep hb2)
              have HB2 := Lib.hid (HB1.out.keep hb2)
              have HP2 := Lib.hid (HP1.out.keep hb2)
              have hbw2 : Below w.heap.size w w2 := (by (repeat (first | with_reducible exact Below.refl _ _ | with_reducible assumption | with_reducible refine below_drewN ?_ _ | with_reducible refine Below.drew ?_ | with_reducible refine Below.alloc ?_ (by first | omega | (simp; omega) | (simp; done) | (simp at *; omega)) _ | with_reducible refine Below.setCell ?_ (by first | omega | (simp; omega) | (simp; done) | (simp at *; omega)) _ | refine Below.trans ?_ (Below.mono (by with_reducible assumption) (by first | omega | (simp; omega) | (simp; done) | (simp at *; omega))))))
              have hz2 := hb2.size
              clear hca hcb hcp hfb hb2 HA1 HB1 HP1 hcr2
              have hca := HA2.out.cells
              have hcb := HB2.out.cells
              have hcp := HP2.out.cells
              have hfb := HB2.out.fro
              go_wp2_with (first | (refine wpList_fc_g rfl .f32 _ _ rfl rfl rfl ?_; rw [HLE.out]) | (refine wpList_storeAgg (us := [.int .i64 ((i : Int) - 1), .int .i64 ((k : Int) - 1)]) (storeW2 _ _ _ _) rfl rfl (by simp [Value.oneCell']) HB2.out (by simp) ?_; intro W5 hB5 hO5 hL5 hZ5 hG5))
              refine ⟨⟨3, by omega, by go_num, by rw [HNX.out]; rfl, HA2, ?_, hbw2⟩, by simp [intOf]⟩
              rw [HNX.out, EC1.out, EC2.out]; exact HB2
            · have HL := Lib.hid hl
              have HNX := Lib.hid (show wThree geI C wide i k 3 = some (2, wAt C wide ((i : Int) - 1) ((k : Int) - 1)) by rw [HS.out, wVal, hg]; show (if fc .lss .f32 _ b.2 = true then _ else _) = _; rw [hl]; rfl)
              clear hl
              clear hg hgo HPL HSO HS
              go_wp2_with fail
              refine (i_wat ao c C wide _ _ _ (HV.out.keep (by (repeat (first | with_reducible exact Below.refl _ _ | with_reducible assumption | with_reducible refine below_drewN ?_ _ | with_reducible refine Below.drew ?_ | with_reducible refine Below.alloc ?_ (by first | omega | (simp; omega) | (simp; done) | (simp at *; omega)) _ | with_reducible refine Below.setCell ?_ (by first | omega | (simp; omega) | (simp; done) | (simp at *; omega)) _ | refine Below.trans ?_ (Below.mono (by with_reducible assumption) (by first | omega | (simp; omega) | (simp; done) | (simp at *; omega))))))) (by omega) (by omega) (by omega) (by omega) (by omega) (fun h4 h5 => HIN.out _ _ (by omega) (by omega) (by omega) h4 h5)).mono ?_
              rintro e w1 ⟨⟨r1, rfl, hr1, hcr1⟩, hb1⟩
              have HC1 := Lib.hid hcr1
              clear hcr1
              have HA1 := Lib.hid (show BK w1 w.heap.size [.slice ao C.length c, .int .i64 wide] from BK.keep (BK.alloc HA.out _) hb1)
              have HB1 := Lib.hid (show BK w1 (w.heap.size + 1) [.int .i64 bi, .int .i64 bk] from BK.keep (BK.alloc HB.out _) hb1)
              have HP1 := Lib.hid (show BK w1 wr.heap.size [.int .i64 ((i : Int) - 1), .int .i64 ((k : Int) - 1)] from BK.keep (BK.newAtW _ _ _ rfl) hb1)
              have hbw1 : Below w.heap.size w w1 := (by (repeat (first | with_reducible exact Below.refl _ _ | with_reducible assumption | with_reducible refine below_drewN ?_ _ | with_reducible refine Below.drew ?_ | with_reducible refine Below.alloc ?_ (by first | omega | (simp; omega) | (simp; done) | (simp at *; omega)) _ | with_reducible refine Below.setCell ?_ (by first | omega | (simp; omega) | (simp; done) | (simp at *; omega)) _ | refine Below.trans ?_ (Below.mono (by with_reducible assumption) (by first | omega | (simp; omega) | (simp; done) | (simp at *; omega))))))
              have hz1 := hb1.size
              simp only [World.size_alloc] at hz1
              clear hca hcb hfb hb1 HA HB
              have hca := HA1.out.cells
              have hcb := HB1.out.cells
              have hcp := HP1.out.cells
              have hfb := HB1.out.fro
              have hla1 := HA1.out.lt
              have hlb1 := HB1.out.lt
              have HGE := Lib.hid (show fc .geq .f32 (cn .f32 r1) (cn .f32 0) = true by rw [HC1.out, cn0]; exact HG.out)
              go_wp2_with (first | (refine wpList_fc .f32 _ _ rfl rfl rfl ?_; rw [HGE.out]))
              refine (i_wat ao c C wide _ _ _ (HV.out.keep (by (repeat (first | with_reducible exact Below.refl _ _ | with_reducible assumption | with_reducible refine below_drewN ?_ _ | with_reducible refine Below.drew ?_ | with_reducible refine Below.alloc ?_ (by first | omega | (simp; omega) | (simp; done) | (simp at *; omega)) _ | with_reducible refine Below.setCell ?_ (by first | omega | (simp; omega) | (simp; done) | (simp at *; omega)) _ | refine Below.trans ?_ (Below.mono (by with_reducible assumption) (by first | omega | (simp; omega) | (simp; done) | (simp at *; omega))))))) (by omega) (by omega) (by omega) (by omega) (by omega) (fun h4 h5 => HIN.out _ _ (by omega) (by omega) (by omega) h4 h5)).mono ?_
              rintro e w2 ⟨⟨r2, rfl, hr2, hcr2⟩, hb2⟩
              have HLE := Lib.hid (show fc .lss .f32 (cn .f32 r1) (cn .f32 r2) = true by rw [HC1.out, hcr2, ← HBV.out]; exact HL.out)
              have HA2 := Lib.hid (HA1.out.keep hb2)
              have HB2 := Lib.hid (HB1.out.keep hb2)
              have HP2 := Lib.hid (HP1.out.keep hb2)
              have hbw2 : Below w.heap.size w w2 := (by (repeat (first | with_reducible exact Below.refl _ _ | with_reducible assumption | with_reducible refine below_drewN ?_ _ | with_reducible refine Below.drew ?_ | with_reducible refine Below.alloc ?_ (by first | omega | (simp; omega) | (simp; done) | (simp at *; omega)) _ | with_reducible refine Below.setCell ?_ (by first | omega | (simp; omega) | (simp; done) | (simp at *; omega)) _ | refine Below.trans ?_ (Below.mono (by with_reducible assumption) (by first | omega | (simp; omega) | (simp; done) | (simp at *; omega))))))
              have hz2 := hb2.size
              clear hca hcb hcp hfb hb2 HA1 HB1 HP1 hcr2
              have hca := HA2.out.cells
              have hcb := HB2.out.cells
              have hcp := HP2.out.cells
              have hfb := HB2.out.fro
              go_wp2_with (first | (refine wpList_fc_g rfl .f32 _ _ rfl rfl rfl ?_; rw [HLE.out]) | (refine wpList_storeAgg (us := [.int .i64 ((i : Int) - 1), .int .i64 ((k : Int) - 1)]) (storeW2 _ _ _ _) rfl rfl (by simp [Value.oneCell']) HB2.out (by simp) ?_; intro W5 hB5 hO5 hL5 hZ5 hG5))
              simp only [setsAt, List.take_zero, List.nil_append, List.length_cons, List.length_nil, Nat.zero_add, List.drop_succ_cons, List.drop_nil, List.append_nil] at hB5
              refine ⟨⟨3, by omega, by go_num, by rw [HNX.out]; rfl, Lib.hid (hO5 _ _ HA2.out (by omega)), ?_, hL5 _ _ hbw2 (by omega)⟩, by simp [intOf]⟩
              rw [HNX.out]; exact Lib.hid hB5
    · obtain rfl : m = 3 := by omega
      go_wp2_with fail
      go_quiet (fail)
      go_wp2_with fail
      go_ret3
      exact ⟨rfl, by (repeat (first | with_reducible exact Below.refl _ _ | with_reducible assumption | with_reducible refine below_drewN ?_ _ | with_reducible refine Below.drew ?_ | with_reducible refine Below.alloc ?_ (by first | omega | (simp; omega) | (simp; done) | (simp at *; omega)) _ | with_reducible refine Below.setCell ?_ (by first | omega | (simp; omega) | (simp; done) | (simp at *; omega)) _ | refine Below.trans ?_ (Below.mono (by with_reducible assumption) (by first | omega | (simp; omega) | (simp; done) | (simp at *; omega)))))⟩

end Go.Proofs.Ytkkomajokdlkeaa
