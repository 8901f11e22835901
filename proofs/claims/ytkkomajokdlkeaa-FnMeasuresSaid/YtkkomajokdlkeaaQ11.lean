/- Contracts: what the laws draw out of bytes: numbers below others, small numbers. -/
import Derived.Deep.QuietTactic
import Derived.BigQuiet
import Derived.Laws.Bits64b
import Derived.Deep.RegionWith
import Derived.Deep.RegionHeld3
import Derived.Test.YtkkomajokdlkeaaQ2
import Derived.Test.YtkkomajokdlkeaaQ3
import Derived.Test.YtkkomajokdlkeaaQ9
import Derived.Test.YtkkomajokdlkeaaQ10
namespace Go.Proofs.Ytkkomajokdlkeaa
set_option linter.unusedSimpArgs false
set_option linter.unusedVariables false
set_option maxRecDepth 100000
set_option maxHeartbeats 4000000
open Go.RowKit
attribute [local go_sem] run_store_float run_store_complex alloc_drewN setCell_drewN

/-- A source: bytes, a place in them, a seed. -/
def SR (w : World) (p : Nat) (u : Value) (k : Nat) : Prop := ∃ seed : Int, BK w p [u, .int .i64 (k : Int), .int .u64 seed]
theorem grown_drewN80 {w w' : World} {r : Option Nat} (h : w.grownBy w' r) (n : Nat) : w.grownBy (w'.drewN n) r := ⟨h.os, h.tape, h.output, h.size, h.block⟩
theorem GL.getU {w : World} {ao : Option Addr} {m c : Nat} {xs : List Int} (h : GL (Value.int .u8) w (.slice ao m c) xs) : ∀ i, i < xs.length → ∃ b off, ao = some ⟨b, off, none⟩ ∧ b < w.heap.size ∧ w.cell? ⟨b, off + i, none⟩ = some (.int .u8 (xs.getD i 0)) := by
  obtain ⟨bo, d, hv, hc, hget⟩ := h
  simp only [Value.slice.injEq] at hv
  obtain ⟨rfl, -, -⟩ := hv
  intro i hi
  obtain ⟨b, off, e1, e2, e3⟩ := hget i hi
  exact ⟨b, off, e1, e2, by rw [e3]; simp [hi]⟩
theorem srSet1 {w : World} {p : Nat} {u a b a' : Value} (hB : BK w p [u, a, b]) : BK (w.setCell ⟨p, 1, none⟩ a') p [u, a', b] := hB.set (j := 1) (by simp) a'
theorem srSet2 {w : World} {p : Nat} {u a b b' : Value} (hB : BK w p [u, a, b]) : BK (w.setCell ⟨p, 2, none⟩ b') p [u, a, b'] := hB.set (j := 2) (by simp) b'
theorem grown_set80 {w w' : World} {p i : Nat} (h : w.grownBy w' (some p)) (v : Value) : w.grownBy (w'.setCell ⟨p, i, none⟩ v) (some p) := grown_trans h (grown_setCell w' ⟨p, i, none⟩ v)
theorem srEnd {W : World} {p : Nat} {u : Value} {k : Nat} {s2 : Int} (hB : BK W p [u, .int .i64 ((k : Int) + 1), .int .u64 s2]) : SR W p u (k + 1) :=
  ⟨s2, by rw [Int.natCast_add]; exact hB⟩
theorem grown_app {w w1 w2 : World} {p : Nat} {r : Option Nat} (h : w.grownBy w1 (some p)) (h2 : w1.grownBy w2 r) (hr : ∀ g, r = some g → w.heap.size ≤ g) : w.grownBy w2 (some p) :=
  ⟨h2.os.trans h.os, h2.tape.trans h.tape, h2.output.trans h.output, Nat.le_trans h.size h2.size, fun i hi hne => (h2.block i (Nat.lt_of_lt_of_le hi h.size) (fun e => by have := hr i e.symm; omega)).trans (h.block i hi hne)⟩
theorem BK.grown80 {w w' : World} {p : Nat} {vs : List Value} {r : Option Nat} (h : BK w p vs) (hg : w.grownBy w' r) (hr : r ≠ some p) : BK w' p vs := by
  have hb := hg.block p h.lt (fun e => hr e.symm)
  refine ⟨Nat.lt_of_lt_of_le h.lt hg.size, fun i hi => (World.cell?_of_block hb).trans (h.cells i hi), fun i => ?_⟩
  have h1 := h.fro i
  simp only [World.frozen?, hb] at h1 ⊢
  exact h1
theorem SR.grown80 {w w' : World} {p k : Nat} {u : Value} {r : Option Nat} (h : SR w p u k) (hg : w.grownBy w' r) (hr : r ≠ some p) : SR w' p u k := by
  obtain ⟨seed, hB⟩ := h
  exact ⟨seed, hB.grown80 hg hr⟩
theorem SR.drewN80 {w : World} {p k : Nat} {u : Value} (h : SR w p u k) (n : Nat) : SR (w.drewN n) p u k := by
  obtain ⟨seed, hB⟩ := h
  exact ⟨seed, hB.drewN n⟩
theorem SR.alloc80 {w : World} {p k : Nat} {u : Value} (h : SR w p u k) (o : Obj) : SR (w.alloc o) p u k := by
  obtain ⟨seed, hB⟩ := h
  exact ⟨seed, hB.alloc o⟩
theorem seed_byte (x : Int) : ∃ n : Nat, n < 256 ∧ wrap64 (bits .and .u64 (IntKind.u64.wrap x / 1099511627776) 255) = (n : Int) := by
  have h1 : IntKind.u64.wrap x = x % 18446744073709551616 := IntKind.wrap_u64 x
  rw [h1]
  have h0 : 0 ≤ x % 18446744073709551616 / 1099511627776 := by omega
  obtain ⟨a, ha⟩ := Int.eq_ofNat_of_zero_le h0
  have hlt : a < 18446744073709551616 := by omega
  rw [ha]
  have hb := bits_and_u64_nat a 255 hlt (by decide)
  have hle : a &&& 255 ≤ 255 := Nat.and_le_right
  refine ⟨a &&& 255, by omega, ?_⟩
  rw [show ((255 : Int)) = ((255 : Nat) : Int) from rfl, hb]
  generalize a &&& 255 = m at *
  simp only [wrap64]
  omega
/-- A quarter of a whole number from -16 to 16. -/
def q4 (x : Int) : Nat := divF (cn .f32 (floatOfInt .f32 x)) (cn .f32 1082130432)
def isQ (c : Nat) : Prop := ∃ x : Int, -16 ≤ x ∧ x ≤ 16 ∧ c = q4 x

theorem s_next (w0 : World) (p : Nat) (u : Value) (cs : List Int) (k : Nat) (hk : k < 1099511627776) (w : World) (hu : GL (Value.int .u8) w0 u cs) (hcs : allU8 cs) (hb : Below w0.heap.size w0 w) (hp : w0.heap.size ≤ p) (hs : SR w p u k) :
    Calls Try.prog 139 #[.pointer (some ⟨p, 0, none⟩)] w fun e w' => (∃ x : Nat, x < 256 ∧ e = .returned (.int .i64 (x : Int))) ∧ SR w' p u (k + 1) ∧ w.grownBy w' (some p) := by
  obtain ⟨seed, hB⟩ := hs
  obtain ⟨ao, c, rfl, hc1, hc2⟩ := hu.slice
  have HB := Lib.hid hB
  have hca := hB.cells
  have hfa := hB.fro
  have hlt := hB.lt
  have z0 : (0 : Int) ≤ (k : Int) := by omega
  have z2 : ((k : Int)).toNat = k := by omega
  clear hB
  by_cases h : k < cs.length
  · obtain ⟨b, off, rfl, hbl, hcell⟩ := hu.getU k h
    have hx := hcs.get k
    have hc' := (hb.cell (p := ⟨b, off + k, none⟩) hbl).trans hcell
    have hbp : b ≠ p := by omega
    have z1 : (k : Int) < (cs.length : Int) := by omega
    generalize cs.getD k 0 = x at *
    clear hcell
    obtain ⟨xn, rfl⟩ := Int.eq_ofNat_of_zero_le hx.1
    go_enter Try.func139, Try.ntmps139
    go_wp2_with fail
    go_quiet (fail)
    go_wp2_with fail
    go_quiet (fail)
    go_wp2_with fail
    go_quiet (fail)
    go_wp2_with fail
    go_ret
    refine ⟨⟨xn, by omega, rfl⟩, ?_, ?_⟩
    · apply srEnd
      repeat (first | exact HB.out | refine BK.drewN ?_ _ | refine srSet2 (b := .int .u64 seed) ?_ | refine srSet1 (a := .int .i64 (k : Int)) ?_)
    · repeat (first | exact World.grownBy.refl _ _ | refine grown_drewN80 ?_ _ | refine grown_set80 ?_ _)
  · have z1 : ¬ (k : Int) < (cs.length : Int) := by omega
    go_enter Try.func139, Try.ntmps139
    go_wp2_with fail
    go_quiet (fail)
    go_wp2_with fail
    go_quiet (fail)
    go_wp2_with fail
    go_ret
    obtain ⟨m, hm, hme⟩ := seed_byte (IntKind.u64.wrap (IntKind.u64.wrap (seed * 6364136223846793005)) + 1442695040888963407)
    refine ⟨⟨m, hm, congrArg (fun z => Ending.returned (Value.int .i64 z)) hme⟩, ?_, ?_⟩
    · apply srEnd
      repeat (first | exact HB.out | refine BK.drewN ?_ _ | refine srSet2 (b := .int .u64 seed) ?_ | refine srSet1 (a := .int .i64 (k : Int)) ?_)
    · repeat (first | exact World.grownBy.refl _ _ | refine grown_drewN80 ?_ _ | refine grown_set80 ?_ _)

theorem s_pick (w0 : World) (p : Nat) (u : Value) (cs : List Int) (k : Nat) (n : Nat) (hk : k < 1000000000) (hn : 1 < n) (hn2 : n ≤ 200) (w : World) (hu : GL (Value.int .u8) w0 u cs) (hcs : allU8 cs) (hb : Below w0.heap.size w0 w) (hp : w0.heap.size ≤ p) (hs : SR w p u k) :
    Calls Try.prog 117 #[.pointer (some ⟨p, 0, none⟩), .int .i64 (n : Int)] w fun e w' => (∃ x : Nat, x < n ∧ e = .returned (.int .i64 (x : Int))) ∧ SR w' p u (k + 1) ∧ w.grownBy w' (some p) := by
  have HU := Lib.hid hu
  have HCS := Lib.hid hcs
  have HS := Lib.hid hs
  have HB := Lib.hid hb
  clear hu hcs hs hb
  go_enter Try.func117, Try.ntmps117
  go_wp2_with fail
  refine (s_next w0 p u cs k (by omega) _ HU.out HCS.out HB.out hp HS.out).mono ?_
  rintro z w1 ⟨⟨x, hx, rfl⟩, hs1, hg1⟩
  have HS1 := Lib.hid hs1
  have HG1 := Lib.hid hg1
  clear hs1 hg1
  have hm : ((x : Int)).tmod (n : Int) = ((x % n : Nat) : Int) := by rw [Int.tmod_eq_emod_of_nonneg (by omega)]; omega
  have hlt : x % n < n := Nat.mod_lt _ (by omega)
  have HM := Lib.hid (show (x : Int) % (n : Int) = ((x % n : Nat) : Int) by omega)
  clear hm
  go_wp2_with fail
  go_ret
  refine ⟨⟨x % n, hlt, ?_⟩, HS1.out, HG1.out⟩
  exact congrArg (fun z => Ending.returned (Value.int .i64 z)) HM.out

theorem s_l00From (u : Value) (w : World) (cs : List Int) (hu : GL (Value.int .u8) w u cs) :
    Calls Try.prog 53 #[u] w fun e w' => e = .returned (.pointer (some ⟨w.heap.size, 0, none⟩)) ∧ SR w' w.heap.size u 0 ∧ Below w.heap.size w w' ∧ w.heap.size + 1 ≤ w'.heap.size := by
  obtain ⟨ao, c, rfl, hc1, hc2⟩ := hu.slice
  clear hu
  go_enter Try.func53, Try.ntmps53
  go_wp2_with fail
  go_ret
  refine ⟨rfl, ⟨0, ?_⟩, by (repeat (first | with_reducible exact Below.refl _ _ | with_reducible assumption | with_reducible refine below_drewN ?_ _ | with_reducible refine Below.drew ?_ | with_reducible refine Below.alloc ?_ (by first | omega | (simp; omega) | (simp; done) | (simp at *; omega)) _ | with_reducible refine Below.setCell ?_ (by first | omega | (simp; omega) | (simp; done) | (simp at *; omega)) _ | refine Below.trans ?_ (Below.mono (by with_reducible assumption) (by first | omega | (simp; omega) | (simp; done) | (simp at *; omega))))), by simp⟩
  exact BK.new w [.slice ao cs.length c, .int .i64 0, .int .u64 0] _

theorem s_l03DrawOk (w0 : World) (p : Nat) (u : Value) (cs : List Int) (k : Nat) (n : Nat) (hk : k < 1000000) (hn2 : n ≤ 1000000) (w : World) (hu : GL (Value.int .u8) w0 u cs) (hcs : allU8 cs) (hb : Below w0.heap.size w0 w) (hp : w0.heap.size ≤ p) (hs : SR w p u k) (hpw : p < w.heap.size) :
    Calls Try.prog 54 #[.pointer (some ⟨p, 0, none⟩), .int .i64 (n : Int)] w fun e w' => (∃ v L, e = .returned v ∧ OW 33 w.heap.size w' v L ∧ L.length = n ∧ ∀ c ∈ L, isQ c) ∧ SR w' p u (k + n) ∧ w.grownBy w' (some p) := by
  have HU := Lib.hid hu
  have HCS := Lib.hid hcs
  have HS := Lib.hid hs
  have HB := Lib.hid hb
  clear hu hcs hs hb
  go_enter Try.func54, Try.ntmps54
  go_wp2_with fail
  go_loopw [1, 5] (fun m o wr => ∃ j : Nat, j ≤ n ∧ m = .int .i64 ((n - j : Nat) : Int) ∧ (∃ L : List Nat, Hid (OW 33 w.heap.size wr o L) ∧ L.length = j ∧ Hid (∀ c ∈ L, isQ c)) ∧ Hid (SR wr p u (k + j)) ∧ w.grownBy wr (some p)) (fun m _ _ => (intOf m).toNat)
  case atStart => exact ⟨0, Nat.zero_le _, by simp, ⟨[], OW.empty _ _ rfl (Nat.le_refl _), rfl, fun c hc => by cases hc⟩, ⟨HS.out.choose, BK.alloc HS.out.choose_spec _⟩, grown_of_below ((Below.refl _ _).alloc (Nat.le_refl _) _) _⟩
  case round =>
    obtain ⟨j, hj, rfl, ⟨L, HL, hjl, HQ⟩, HSR, hg⟩ := hrel
    have HJ := Lib.hid hjl
    clear hjl
    have hz := hg.size
    by_cases hlt : j < n
    · obtain ⟨m, hm⟩ : ∃ m, n - j = m + 1 := ⟨n - j - 1, by omega⟩
      rw [hm]
      have HM := Lib.hid hm
      clear hm
      have hmm : m < n := by have := HM.out; omega
      go_wp2_with fail
      refine (s_pick w0 p u cs (k + j) 33 (by omega) (by omega) (by omega) _ HU.out HCS.out (HB.out.grown hg HB.out.size (by intro g e; injection e with e; omega)) hp HSR.out).mono ?_
      rintro z w1 ⟨⟨x, hx, rfl⟩, hs1, hg1⟩
      have HS1 := Lib.hid hs1
      have HG1 := Lib.hid (grown_trans hg hg1)
      have hz1 := hg1.size
      have HL1 := Lib.hid (show OW 33 w.heap.size w1 _ L from OW.grown_keep HL.out hg1 (fun g e => by injection e with e; omega))
      clear hs1 hg1
      have HLN := Lib.hid (show L.length < 1099511627776 by rw [HJ.out]; omega)
      go_wp2_with (first | (refine wpList_ar .f32 _ _ rfl rfl rfl ?_; intro r n hr hlt) | (refine wpList_fc .f32 _ _ rfl rfl rfl ?_) | (refine wpList_fc_g rfl .f32 _ _ rfl rfl rfl ?_) | (refine wpList_ar_g rfl .f32 _ _ rfl rfl rfl ?_; intro r n hr hlt) | (at_builtin; refine wpList_app1 f32s w.heap.size u5 L rfl (by first | exact OW.drewN (OW.alloc HL1.out _) _ | exact OW.alloc HL1.out _) _ _ rfl (by simp; rfl) (by exact hlt) HLN.out (by simp; omega) ?_; intro v' w' ho' hg'; have HO' := Lib.hid ho'; have HG' := Lib.hid hg'; have HR := Lib.hid hr; clear ho' hg' hr hlt))
      have hne : ∀ g, u5.ownBlock = some g → w.heap.size ≤ g := HL1.out.own_ge
      refine ⟨⟨j + 1, by omega, ?_, ⟨_, HO', by rw [List.length_append, HJ.out]; rfl, ?_⟩, ?_, ?_⟩, by first | (simp [intOf]; done) | (simp [intOf]; omega)⟩
      · have := HM.out
        congr 1; omega
      · intro c hc
        rcases List.mem_append.1 hc with hc | hc
        · exact HQ.out c hc
        · rw [List.mem_singleton] at hc
          subst hc
          exact ⟨(x : Int) - 16, by omega, by omega, HR.out⟩
      · exact SR.grown80 (by first | exact SR.drewN80 (SR.alloc80 HS1.out _) _ | exact SR.alloc80 HS1.out _) HG'.out (fun e => by have := hne p e; omega)
      · exact grown_app (by first | exact grown_drewN80 (grown_trans HG1.out (World.grownBy_alloc _ _ _)) _ | exact grown_trans HG1.out (World.grownBy_alloc _ _ _)) HG'.out hne
    · go_wp2_with fail
      go_ret
      have hjn : j = n := by omega
      subst hjn
      exact ⟨⟨_, L, rfl, HL.out, HJ.out, HQ.out⟩, HSR.out, hg⟩

theorem s_B10List (u : Value) (cs : List Int) (n : Nat) (hn : n ≤ 1000000) (w : World) (hu : GL (Value.int .u8) w u cs) (hcs : allU8 cs) :
    Calls Try.prog 9 #[u, .int .i64 (n : Int)] w fun e w' => (∃ v L, e = .returned v ∧ OW 33 w.heap.size w' v L ∧ L.length = n ∧ ∀ c ∈ L, isQ c) ∧ Below w.heap.size w w' := by
  have HU := Lib.hid hu
  clear hu
  go_enter Try.func9, Try.ntmps9
  go_wp2_with fail
  refine (s_l00From u _ cs HU.out).mono ?_
  rintro z w1 ⟨rfl, hs1, hb1, hz1⟩
  have HS1 := Lib.hid hs1
  have HB1 := Lib.hid hb1
  clear hs1 hb1
  go_wp2_with fail
  refine (s_l03DrawOk w w.heap.size u cs 0 n (by omega) hn _ HU.out hcs HB1.out (Nat.le_refl _) HS1.out (by omega)).mono ?_
  rintro z w2 ⟨⟨v, L, rfl, ho, hl, hq⟩, hs2, hg2⟩
  have HO := Lib.hid ho
  have HL := Lib.hid hl
  have HQ := Lib.hid hq
  have HG := Lib.hid hg2
  clear ho hl hq hs2 hg2
  go_wp2_with fail
  go_ret
  exact ⟨⟨v, L, rfl, HO.out.down (by omega), HL.out, HQ.out⟩, HB1.out.grown HG.out HB1.out.size (by intro g e; injection e with e; omega)⟩

end Go.Proofs.Ytkkomajokdlkeaa

namespace Go.Proofs.Ytkkomajokdlkeaa
set_option linter.unusedSimpArgs false
set_option linter.unusedVariables false
set_option maxRecDepth 100000
set_option maxHeartbeats 4000000
set_option linter.unusedSimpArgs false
set_option linter.unusedVariables false
open Go.RowKit
attribute [local go_sem] run_store_float run_store_complex alloc_drewN setCell_drewN

/-- Half a whole number from -m to m. -/
def h2r (x : Int) : Nat := divF (cn .f32 (floatOfInt .f32 x)) (cn .f32 1073741824)
def isH (m : Nat) (c : Nat) : Prop := ∃ x : Int, -(m : Int) ≤ x ∧ x ≤ (m : Int) ∧ c = h2r x
theorem own_not180 {v : Value} {B p : Nat} (h : ∀ k, v.ownBlock = some k → B ≤ k) (hp : p < B) : v.ownBlock = none ∨ v.ownBlock ≠ some p := by
  cases hv : v.ownBlock with
  | none => exact .inl rfl
  | some g => exact .inr (fun e => by have := h g hv; injection e with e; omega)
theorem half180 {B : Int} {q : Nat} (h : -2 ≤ B ∧ B ≤ 2) : -(q : Int) ≤ (B * (q : Int)).tdiv 2 ∧ (B * (q : Int)).tdiv 2 ≤ (q : Int) := by
  have h5 : B = -2 ∨ B = -1 ∨ B = 0 ∨ B = 1 ∨ B = 2 := by omega
  have e : ∀ x : Int, 0 ≤ x → x.tdiv 2 = x / 2 := fun x hx => Int.tdiv_eq_ediv_of_nonneg hx
  rcases h5 with rfl | rfl | rfl | rfl | rfl
  · rw [show (-2 : Int) * (q : Int) = -(2 * (q : Int)) by omega, Int.neg_tdiv, e _ (by omega)]; omega
  · rw [show (-1 : Int) * (q : Int) = -(q : Int) by omega, Int.neg_tdiv, e _ (by omega)]; omega
  · rw [Int.zero_mul, e _ (by omega)]; omega
  · rw [Int.one_mul, e _ (by omega)]; omega
  · rw [e _ (by omega)]; omega
theorem mul180 {B : Int} {q : Nat} (h : -2 ≤ B ∧ B ≤ 2) : -(2 * (q : Int)) ≤ B * (q : Int) ∧ B * (q : Int) ≤ 2 * (q : Int) := by
  have h5 : B = -2 ∨ B = -1 ∨ B = 0 ∨ B = 1 ∨ B = 2 := by omega
  rcases h5 with rfl | rfl | rfl | rfl | rfl <;> omega
theorem SR.drew180 {w : World} {p k : Nat} {u : Value} (h : SR w p u k) : SR w.drew p u k := by
  obtain ⟨seed, hB⟩ := h
  exact ⟨seed, hB.drew⟩

theorem oneI64D : OneC Try.prog 28 2 (.int .i64 0) 8 := oneC_of Try.underlying28 (by kernel_rfl) rfl (by decide)
set_option maxRecDepth 100000 in
theorem s_l02DrawOk (w0 : World) (p : Nat) (u : Value) (cs : List Int) (k : Nat) (n : Nat) (hk : k < 1000000) (hn2 : n ≤ 1000) (w : World) (hu : GL (Value.int .u8) w0 u cs) (hcs : allU8 cs) (hb : Below w0.heap.size w0 w) (hp : w0.heap.size ≤ p) (hs : SR w p u k) (hpw : p < w.heap.size) :
    Calls Try.prog 97 #[.pointer (some ⟨p, 0, none⟩), .int .i64 (n : Int)] w fun e w' => (∃ v L, e = .returned v ∧ OW 33 w.heap.size w' v L ∧ L.length = n ∧ ∀ c ∈ L, isH (26 + n) c) ∧ (∃ k', k' ≤ k + 8 + n ∧ SR w' p u k') ∧ w.grownBy w' (some p) := by
  have HU := Lib.hid hu
  have HCS := Lib.hid hcs
  have HS := Lib.hid hs
  have HB := Lib.hid hb
  clear hu hcs hs hb
  go_enter Try.func97, Try.ntmps97
  go_wp2_with fail
  refine (s_pick w0 p u cs k 41 (by omega) (by omega) (by omega) _ HU.out HCS.out HB.out hp HS.out).mono ?_
  rintro z w1 ⟨⟨x0, hx0, rfl⟩, hs1, hg1⟩
  have HS1 := Lib.hid hs1
  have HG1 := Lib.hid hg1
  clear hs1 hg1
  have hg := HG1.out
  have t1 : IntKind.i64.wrap ((x0 : Int) - 20) = (x0 : Int) - 20 := by rw [IntKind.wrap_i64]; omega
  go_wp2_with fail
  refine (s_pick w0 p u cs (k + 1) 5 (by omega) (by omega) (by omega) _ HU.out HCS.out (HB.out.grown hg HB.out.size (by intro g e; injection e with e; omega)) hp HS1.out).mono ?_
  rintro z w2 ⟨⟨x1, hx1, rfl⟩, hs1, hg1⟩
  have HS2 := Lib.hid hs1
  have HG2 := Lib.hid (grown_trans HG1.out hg1)
  clear hs1 hg1 hg t1
  have hg := HG2.out
  have t1 : IntKind.i64.wrap ((x1 : Int) - 2) = (x1 : Int) - 2 := by rw [IntKind.wrap_i64]; omega
  go_wp2_with fail
  refine (s_pick w0 p u cs (k + 1 + 1) 5 (by omega) (by omega) (by omega) _ HU.out HCS.out (HB.out.grown hg HB.out.size (by intro g e; injection e with e; omega)) hp HS2.out).mono ?_
  rintro z w3 ⟨⟨x2, hx2, rfl⟩, hs1, hg1⟩
  have HS3 := Lib.hid hs1
  have HG3 := Lib.hid (grown_trans HG2.out hg1)
  clear hs1 hg1 hg t1
  have hg := HG3.out
  have hz3 := hg.size
  obtain ⟨A, hA⟩ : ∃ A : Int, A = (x0 : Int) - 20 := ⟨_, rfl⟩
  obtain ⟨B, hB⟩ : ∃ B : Int, B = (x1 : Int) - 2 := ⟨_, rfl⟩
  obtain ⟨P, hP⟩ : ∃ P : Nat, P = x2 + 1 := ⟨_, rfl⟩
  have hA1 : -20 ≤ A ∧ A ≤ 20 := by omega
  have hB1 : -2 ≤ B ∧ B ≤ 2 := by omega
  have hP1 : 1 ≤ P ∧ P ≤ 5 := by omega
  have t2 : (1 : Int) + (x2 : Int) = (P : Int) := by omega
  have t3 : IntKind.i64.wrap (P : Int) = (P : Int) := by rw [IntKind.wrap_i64]; omega
  rw [← hA, ← hB]
  clear hA hB hP hx0 hx1 hx2
  have HO0 := Lib.hid (show GO (Value.int .i64) 2 w3.heap.size (w3.alloc (.cells #[] 2)) (.slice (some ⟨w3.heap.size, 0, none⟩) 0 0) [] from GO.empty _ _ rfl (Nat.le_refl _))
  go_wp2_with fail
  go_loopw [9, 8] (fun i o wr => ∃ j : Nat, j ≤ P ∧ i = .int .i64 (j : Int) ∧ (∃ L : List Int, Hid (GO (Value.int .i64) 2 w3.heap.size wr o L) ∧ L.length = j ∧ Hid (∀ c ∈ L, -4 ≤ c ∧ c ≤ 4)) ∧ Hid (SR wr p u (k + 3 + j)) ∧ w3.grownBy wr (some p)) (fun i _ _ => P - (intOf i).toNat)
  case atStart => exact ⟨0, Nat.zero_le _, rfl, ⟨[], HO0, rfl, fun c hc => by cases hc⟩, ⟨HS3.out.choose, BK.alloc HS3.out.choose_spec _⟩, grown_of_below ((Below.refl _ _).alloc (Nat.le_refl _) _) _⟩
  case round =>
    clear HO0
    obtain ⟨j, hj, rfl, ⟨L, HL, hjl, HQ⟩, HSR, hg4⟩ := hrel
    have HJ := Lib.hid hjl
    clear hjl
    have hz := hg4.size
    by_cases hlt : j < P
    · have hji : (j : Int) < (P : Int) := by omega
      have hg5 := grown_trans HG3.out hg4
      go_wp2_with fail
      refine (s_pick w0 p u cs (k + 3 + j) 9 (by omega) (by omega) (by omega) _ HU.out HCS.out (HB.out.grown hg5 HB.out.size (by intro g e; injection e with e; omega)) hp HSR.out).mono ?_
      rintro z w4 ⟨⟨x, hx, rfl⟩, hs1, hg1⟩
      have HS4 := Lib.hid hs1
      have HG4 := Lib.hid (grown_trans hg4 hg1)
      have hz1 := hg1.size
      have HL1 := Lib.hid (show GO (Value.int .i64) 2 w3.heap.size w4 _ L from GO.kept HL.out hg1 (own_not180 HL.out.own_ge (by omega)))
      clear hs1 hg1
      have HLN := Lib.hid (show L.length < 1099511627776 by rw [HJ.out]; omega)
      have t4 : IntKind.i64.wrap ((x : Int) - 4) = (x : Int) - 4 := by rw [IntKind.wrap_i64]; omega
      have hne : ∀ g, Value.ownBlock u8 = some g → w3.heap.size ≤ g := HL1.out.own_ge
      go_wp2_with (at_builtin; go_loud (refine wpList_gapp (inj := Value.int .i64) oneI64D (fun _ => rfl) w3.heap.size _ L rfl (GO.alloc HL1.out _) [(x : Int) - 4] _ 1 rfl rfl (by intro i u hu; cases i with | zero => (simp only [List.getElem?_cons_zero, Option.some.injEq] at hu; subst hu; simp) | succ i => simp at hu) (by have := HJ.out; simp only [List.length_cons, List.length_nil]; omega) (by simp; omega) ?_; intro v' w5 ho' hg'; have HO' := Lib.hid ho'; have HG' := Lib.hid hg'; clear ho' hg'))
      refine ⟨⟨j + 1, by omega, by go_num, ⟨_, HO', by rw [List.length_append, HJ.out]; rfl, ?_⟩, ?_, ?_⟩, by simp [intOf]; omega⟩
      · intro c hc
        rcases List.mem_append.1 hc with hc | hc
        · exact HQ.out c hc
        · rw [List.mem_singleton] at hc
          subst hc
          constructor <;> omega
      · exact SR.grown80 (SR.alloc80 HS4.out _) HG'.out (fun e => by have := hne p e; omega)
      · exact grown_app (grown_trans HG4.out (World.grownBy_alloc _ _ _)) HG'.out hne
    · obtain rfl : j = P := by omega
      have hji : ¬ ((j : Int) < (j : Int)) := by omega
      have HG4 := Lib.hid hg4
      obtain ⟨w4, hw4⟩ : ∃ q, q = wr := ⟨_, rfl⟩
      subst hw4
      have HO0 := Lib.hid (show OW 33 w4.heap.size (w4.alloc (.cells #[] 33)) (.slice (some ⟨w4.heap.size, 0, none⟩) 0 0) [] from OW.empty _ _ rfl (Nat.le_refl _))
      go_wp2_with fail
      go_loopw [11, 10, 12] (fun i o f wr => ∃ q : Nat, q ≤ n ∧ i = .int .i64 (q : Int) ∧ (∃ M : List Nat, Hid (OW 33 w4.heap.size wr o M) ∧ M.length = q ∧ Hid (∀ c ∈ M, isH (26 + n) c)) ∧ Hid (SR wr p u (k + 3 + j + q)) ∧ w4.grownBy wr (some p)) (fun i _ _ _ => n - (intOf i).toNat)
      case atStart => exact ⟨0, Nat.zero_le _, rfl, ⟨[], HO0, rfl, fun c hc => by cases hc⟩, ⟨HSR.out.choose, BK.alloc HSR.out.choose_spec _⟩, grown_of_below ((Below.refl _ _).alloc (Nat.le_refl _) _) _⟩
      case round =>
        clear HO0
        obtain ⟨q, hq, rfl, ⟨M, HM, hmq, HMQ⟩, HSR2, hg6⟩ := hrel
        have HMJ := Lib.hid hmq
        clear hmq
        have hz6 := hg6.size
        have HLr := Lib.hid (show GO (Value.int .i64) 2 w3.heap.size wr _ L from GO.kept HL.out hg6 (own_not180 HL.out.own_ge (by omega)))
        by_cases hlt : q < n
        · have hji : (q : Int) < (n : Int) := by omega
          have hj0 : (j : Int) ≠ 0 := by omega
          have hj0n : ¬ j = 0 := by omega
          have hr : q % j < L.length := by rw [HJ.out]; exact Nat.mod_lt _ (by omega)
          obtain ⟨bo, dd, hv8, -, hget⟩ := HLr.out.gl
          obtain ⟨b, off, rfl, hbl, hcell⟩ := hget (q % j) hr
          subst hv8
          have h4 := HQ.out _ (List.getElem_mem hr)
          obtain ⟨s, hs⟩ : ∃ s, s = L[q % j] := ⟨_, rfl⟩
          rw [← hs] at hcell h4
          clear hget hs
          have hob : w3.heap.size ≤ b := HLr.out.own_ge b rfl
          have HBG := Lib.hid (HB.out.grown (grown_trans (grown_trans HG3.out HG4.out) hg6) HB.out.size (by intro g e; injection e with e; omega))
          have hm1 : ((q : Int)).tmod (j : Int) = ((q % j : Nat) : Int) := by rw [Int.tmod_eq_emod_of_nonneg (by omega)]; omega
          have hr1 : ((q % j : Nat) : Int) < (L.length : Int) := by omega
          have hr0 : 0 ≤ ((q % j : Nat) : Int) := by omega
          have hrn : (((q % j : Nat) : Int)).toNat = q % j := by omega
          have hmb := mul180 (q := q) hB1
          have hhb := half180 (q := q) hB1
          obtain ⟨Y, hY⟩ : ∃ Y, Y = (B * (q : Int)).tdiv 2 := ⟨_, rfl⟩
          obtain ⟨Z, hZ⟩ : ∃ Z, Z = B * (q : Int) := ⟨_, rfl⟩
          have tw1 : IntKind.i64.wrap (B * (q : Int)) = Z := by rw [← hZ, IntKind.wrap_i64]; omega
          have tw2 : Z.tdiv 2 = Y := by rw [hY, hZ]
          rw [← hY] at hhb
          have tw3 : IntKind.i64.wrap Y = Y := by rw [IntKind.wrap_i64]; omega
          have tw4 : IntKind.i64.wrap (A + Y) = A + Y := by rw [IntKind.wrap_i64]; omega
          have tw5 : IntKind.i64.wrap (A + Y + s) = A + Y + s := by rw [IntKind.wrap_i64]; omega
          clear hmb hZ hY
          generalize q % j = rr at *
          go_wp2_with fail
          go_region_held3 (fun W => W.cell? ⟨b, off + rr, none⟩ = some (.int .i64 s)) (first | exact hcell | (simp [hcell]; done) | (simp [*]; done) | go_keep) (first | (go_at_call 117; refine (s_pick w0 p u cs (k + 3 + j + q) 5 (by omega) (by omega) (by omega) _ HU.out HCS.out (by first | exact HBG.out | exact Below.drew HBG.out | exact below_drewN HBG.out _) hp (by first | exact HSR2.out | exact SR.drew180 HSR2.out | exact SR.drewN80 HSR2.out _)).mono ?_; rintro z w6 ⟨⟨x, hx, rfl⟩, hs1, hg1⟩; have hg1' : wr.grownBy w6 (some p) := ⟨hg1.os, hg1.tape, hg1.output, hg1.size, hg1.block⟩; have HS6 := Lib.hid hs1; have HG6 := Lib.hid hg1'; have hcell6 : w6.cell? ⟨b, off + rr, none⟩ = some (.int .i64 s) := (World.cell?_of_block (hg1'.block b hbl (fun e => by injection e; omega))).trans hcell; clear hs1 hg1 hg1'))
          have hb4 : -4 ≤ s ∧ s ≤ 4 := h4
          have hw : IntKind.i64.wrap (IntKind.i64.wrap (A + Y + s + (x : Int)) - 2) = A + Y + s + (x : Int) - 2 := by rw [IntKind.wrap_i64, IntKind.wrap_i64]; omega
          obtain ⟨X, hX⟩ : ∃ X, X = A + Y + s + (x : Int) - 2 := ⟨_, rfl⟩
          rw [hw, ← hX]
          have hX1 : -((26 + n : Nat) : Int) ≤ X ∧ X ≤ ((26 + n : Nat) : Int) := by omega
          clear hw hX hb4 h4 tw1 tw2 tw3 tw4 tw5 hhb hm1 hr1 hr0 hrn hcell hcell6
          have hz7 := HG6.out.size
          have HM6 := Lib.hid (show OW 33 w4.heap.size w6 _ M from OW.grown_keep HM.out HG6.out (fun g e => by injection e with e; omega))
          have HML := Lib.hid (show M.length < 1099511627776 by rw [HMJ.out]; omega)
          have hne : ∀ g, Value.ownBlock u10 = some g → w4.heap.size ≤ g := HM6.out.own_ge
          go_wp2_with (first | (refine wpList_ar .f32 _ _ rfl rfl rfl ?_; intro r n hr hlt) | (refine wpList_fc .f32 _ _ rfl rfl rfl ?_) | (refine wpList_fc_g rfl .f32 _ _ rfl rfl rfl ?_) | (refine wpList_ar_g rfl .f32 _ _ rfl rfl rfl ?_; intro r n hr hlt) | (at_builtin; refine wpList_app1 f32s w4.heap.size u10 M rfl (by first | exact OW.drewN (OW.alloc HM6.out _) _ | exact OW.alloc HM6.out _) _ _ rfl (by simp; rfl) (by exact hlt) HML.out (by simp; omega) ?_; intro v' w' ho' hg'; have HO' := Lib.hid ho'; have HG' := Lib.hid hg'; have HR := Lib.hid hr; clear ho' hg' hr hlt))
          refine ⟨⟨q + 1, by omega, by go_num, ⟨_, HO', by rw [List.length_append, HMJ.out]; rfl, ?_⟩, ?_, ?_⟩, by simp [intOf]; omega⟩
          · intro c hc
            rcases List.mem_append.1 hc with hc | hc
            · exact HMQ.out c hc
            · rw [List.mem_singleton] at hc
              subst hc
              exact ⟨X, hX1.1, hX1.2, HR.out⟩
          · exact SR.grown80 (by first | exact SR.drewN80 (SR.alloc80 HS6.out _) _ | exact SR.alloc80 HS6.out _) HG'.out (fun e => by have := hne p e; omega)
          · exact grown_app (by first | exact grown_drewN80 (grown_trans (grown_trans hg6 HG6.out) (World.grownBy_alloc _ _ _)) _ | exact grown_trans (grown_trans hg6 HG6.out) (World.grownBy_alloc _ _ _)) HG'.out hne
        · go_wp2_with fail
          go_ret
          have hqn : q = n := by omega
          subst hqn
          exact ⟨⟨_, M, rfl, HM.out.down (by omega), HMJ.out, HMQ.out⟩, ⟨k + 3 + j + q, by omega, HSR2.out⟩, grown_trans HG3.out (grown_trans HG4.out hg6)⟩

theorem s_R8Series (u : Value) (cs : List Int) (n : Nat) (hn : n ≤ 1000) (w : World) (hu : GL (Value.int .u8) w u cs) (hcs : allU8 cs) :
    Calls Try.prog 39 #[u, .int .i64 (n : Int)] w fun e w' => (∃ v L, e = .returned v ∧ OW 33 w.heap.size w' v L ∧ L.length = n ∧ ∀ c ∈ L, isH (26 + n) c) ∧ Below w.heap.size w w' := by
  have HU := Lib.hid hu
  clear hu
  go_enter Try.func39, Try.ntmps39
  go_wp2_with fail
  refine (s_l00From u _ cs HU.out).mono ?_
  rintro z w1 ⟨rfl, hs1, hb1, hz1⟩
  have HS1 := Lib.hid hs1
  have HB1 := Lib.hid hb1
  clear hs1 hb1
  go_wp2_with fail
  refine (s_l02DrawOk w w.heap.size u cs 0 n (by omega) hn _ HU.out hcs HB1.out (Nat.le_refl _) HS1.out (by omega)).mono ?_
  rintro z w2 ⟨⟨v, L, rfl, ho, hl, hq⟩, -, hg2⟩
  have HO := Lib.hid ho
  have HL := Lib.hid hl
  have HQ := Lib.hid hq
  have HG := Lib.hid hg2
  clear ho hl hq hg2
  go_wp2_with fail
  go_ret
  exact ⟨⟨v, L, rfl, HO.out.down (by omega), HL.out, HQ.out⟩, HB1.out.grown HG.out HB1.out.size (by intro g e; injection e with e; omega)⟩

end Go.Proofs.Ytkkomajokdlkeaa
