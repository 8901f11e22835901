/- Contracts: what the laws draw out of bytes: numbers below others, small numbers. -/
import Derived.Test.YtkkomajokdlkeaaK6
import Derived.Test.YtkkomajokdlkeaaBk2
import Derived.Test.YtkkomajokdlkeaaOpen3
import Derived.Deep.QuietTactic
import Derived.BigQuiet
import Derived.Laws.Bits64b
namespace Go.Proofs.Ytkkomajokdlkeaa
set_option linter.unusedSimpArgs false
set_option linter.unusedVariables false
set_option maxRecDepth 100000
set_option maxHeartbeats 4000000
open Go.RowKit
attribute [local go_sem] run_store_float run_store_complex alloc_drewN setCell_drewN

/-- A source: bytes, a place in them, a seed. -/
def SR (w : World) (p : Nat) (u : Value) (k : Nat) : Prop := ∃ seed : Int, BK w p [u, .int .i64 (k : Int), .int .u64 seed]
theorem grown_drewN80 {w w' : World} {r : Option Nat} (h : w.grownBy w' r) (n : Nat) : w.grownBy (w'.drewN n) r := ⟨h.os, h.tape, h.output, h.size, h.block⟩
theorem GL.getU {w : World} {ao : Option Addr} {m c : Nat} {xs : List Int} (h : GL (Value.int .u8) w (.slice ao m c) xs) : ∀ i, i < xs.length → ∃ b off, ao = some ⟨b, off, none⟩ ∧ b < w.heap.size ∧ w.cell? ⟨b, off + i, none⟩ = some (.int .u8 (xs.getD i 0)) := by
  obtain ⟨bo, d, hv, hc, hget⟩ := h
  simp only [Value.slice.injEq] at hv
  obtain ⟨rfl, -, -⟩ := hv
  intro i hi
  obtain ⟨b, off, e1, e2, e3⟩ := hget i hi
  exact ⟨b, off, e1, e2, by rw [e3]; simp [hi]⟩
theorem srSet1 {w : World} {p : Nat} {u a b a' : Value} (hB : BK w p [u, a, b]) : BK (w.setCell ⟨p, 1, none⟩ a') p [u, a', b] := hB.set (j := 1) (by simp) a'
theorem srSet2 {w : World} {p : Nat} {u a b b' : Value} (hB : BK w p [u, a, b]) : BK (w.setCell ⟨p, 2, none⟩ b') p [u, a, b'] := hB.set (j := 2) (by simp) b'
theorem grown_set80 {w w' : World} {p i : Nat} (h : w.grownBy w' (some p)) (v : Value) : w.grownBy (w'.setCell ⟨p, i, none⟩ v) (some p) := grown_trans h (grown_setCell w' ⟨p, i, none⟩ v)
theorem srEnd {W : World} {p : Nat} {u : Value} {k : Nat} {s2 : Int} (hB : BK W p [u, .int .i64 ((k : Int) + 1), .int .u64 s2]) : SR W p u (k + 1) :=
  ⟨s2, by rw [Int.natCast_add]; exact hB⟩
theorem grown_app {w w1 w2 : World} {p : Nat} {r : Option Nat} (h : w.grownBy w1 (some p)) (h2 : w1.grownBy w2 r) (hr : ∀ g, r = some g → w.heap.size ≤ g) : w.grownBy w2 (some p) :=
  ⟨h2.os.trans h.os, h2.tape.trans h.tape, h2.output.trans h.output, Nat.le_trans h.size h2.size, fun i hi hne => (h2.block i (Nat.lt_of_lt_of_le hi h.size) (fun e => by have := hr i e.symm; omega)).trans (h.block i hi hne)⟩
theorem BK.grown80 {w w' : World} {p : Nat} {vs : List Value} {r : Option Nat} (h : BK w p vs) (hg : w.grownBy w' r) (hr : r ≠ some p) : BK w' p vs := by
  have hb := hg.block p h.lt (fun e => hr e.symm)
  refine ⟨Nat.lt_of_lt_of_le h.lt hg.size, fun i hi => (World.cell?_of_block hb).trans (h.cells i hi), fun i => ?_⟩
  have h1 := h.fro i
  simp only [World.frozen?, hb] at h1 ⊢
  exact h1
theorem SR.grown80 {w w' : World} {p k : Nat} {u : Value} {r : Option Nat} (h : SR w p u k) (hg : w.grownBy w' r) (hr : r ≠ some p) : SR w' p u k := by
  obtain ⟨seed, hB⟩ := h
  exact ⟨seed, hB.grown80 hg hr⟩
theorem SR.drewN80 {w : World} {p k : Nat} {u : Value} (h : SR w p u k) (n : Nat) : SR (w.drewN n) p u k := by
  obtain ⟨seed, hB⟩ := h
  exact ⟨seed, hB.drewN n⟩
theorem SR.alloc80 {w : World} {p k : Nat} {u : Value} (h : SR w p u k) (o : Obj) : SR (w.alloc o) p u k := by
  obtain ⟨seed, hB⟩ := h
  exact ⟨seed, hB.alloc o⟩
theorem seed_byte (x : Int) : ∃ n : Nat, n < 256 ∧ wrap64 (bits .and .u64 (IntKind.u64.wrap x / 1099511627776) 255) = (n : Int) := by
  have h1 : IntKind.u64.wrap x = x % 18446744073709551616 := IntKind.wrap_u64 x
  rw [h1]
  have h0 : 0 ≤ x % 18446744073709551616 / 1099511627776 := by omega
  obtain ⟨a, ha⟩ := Int.eq_ofNat_of_zero_le h0
  have hlt : a < 18446744073709551616 := by omega
  rw [ha]
  have hb := bits_and_u64_nat a 255 hlt (by decide)
  have hle : a &&& 255 ≤ 255 := Nat.and_le_right
  refine ⟨a &&& 255, by omega, ?_⟩
  rw [show ((255 : Int)) = ((255 : Nat) : Int) from rfl, hb]
  generalize a &&& 255 = m at *
  simp only [wrap64]
  omega
/-- A quarter of a whole number from -16 to 16. -/
def q4 (x : Int) : Nat := divF (cn .f32 (floatOfInt .f32 x)) (cn .f32 1082130432)
def isQ (c : Nat) : Prop := ∃ x : Int, -16 ≤ x ∧ x ≤ 16 ∧ c = q4 x

theorem s_next (w0 : World) (p : Nat) (u : Value) (cs : List Int) (k : Nat) (hk : k < 1099511627776) (w : World) (hu : GL (Value.int .u8) w0 u cs) (hcs : allU8 cs) (hb : Below w0.heap.size w0 w) (hp : w0.heap.size ≤ p) (hs : SR w p u k) :
    Calls Try.prog 139 #[.pointer (some ⟨p, 0, none⟩)] w fun e w' => (∃ x : Nat, x < 256 ∧ e = .returned (.int .i64 (x : Int))) ∧ SR w' p u (k + 1) ∧ w.grownBy w' (some p) := by
  obtain ⟨seed, hB⟩ := hs
  obtain ⟨ao, c, rfl, hc1, hc2⟩ := hu.slice
  have HB := Lib.hid hB
  have hca := hB.cells
  have hfa := hB.fro
  have hlt := hB.lt
  have z0 : (0 : Int) ≤ (k : Int) := by omega
  have z2 : ((k : Int)).toNat = k := by omega
  clear hB
  by_cases h : k < cs.length
  · obtain ⟨b, off, rfl, hbl, hcell⟩ := hu.getU k h
    have hx := hcs.get k
    have hc' := (hb.cell (p := ⟨b, off + k, none⟩) hbl).trans hcell
    have hbp : b ≠ p := by omega
    have z1 : (k : Int) < (cs.length : Int) := by omega
    generalize cs.getD k 0 = x at *
    clear hcell
    obtain ⟨xn, rfl⟩ := Int.eq_ofNat_of_zero_le hx.1
    go_enter Try.func139, Try.ntmps139
    go_wp2_with fail
    go_quiet (fail)
    go_wp2_with fail
    go_quiet (fail)
    go_wp2_with fail
    go_quiet (fail)
    go_wp2_with fail
    go_ret
    refine ⟨⟨xn, by omega, rfl⟩, ?_, ?_⟩
    · apply srEnd
      repeat (first | exact HB.out | refine BK.drewN ?_ _ | refine srSet2 (b := .int .u64 seed) ?_ | refine srSet1 (a := .int .i64 (k : Int)) ?_)
    · repeat (first | exact World.grownBy.refl _ _ | refine grown_drewN80 ?_ _ | refine grown_set80 ?_ _)
  · have z1 : ¬ (k : Int) < (cs.length : Int) := by omega
    go_enter Try.func139, Try.ntmps139
    go_wp2_with fail
    go_quiet (fail)
    go_wp2_with fail
    go_quiet (fail)
    go_wp2_with fail
    go_ret
    obtain ⟨m, hm, hme⟩ := seed_byte (IntKind.u64.wrap (IntKind.u64.wrap (seed * 6364136223846793005)) + 1442695040888963407)
    refine ⟨⟨m, hm, congrArg (fun z => Ending.returned (Value.int .i64 z)) hme⟩, ?_, ?_⟩
    · apply srEnd
      repeat (first | exact HB.out | refine BK.drewN ?_ _ | refine srSet2 (b := .int .u64 seed) ?_ | refine srSet1 (a := .int .i64 (k : Int)) ?_)
    · repeat (first | exact World.grownBy.refl _ _ | refine grown_drewN80 ?_ _ | refine grown_set80 ?_ _)

theorem s_pick (w0 : World) (p : Nat) (u : Value) (cs : List Int) (k : Nat) (n : Nat) (hk : k < 1000000000) (hn : 1 < n) (hn2 : n ≤ 200) (w : World) (hu : GL (Value.int .u8) w0 u cs) (hcs : allU8 cs) (hb : Below w0.heap.size w0 w) (hp : w0.heap.size ≤ p) (hs : SR w p u k) :
    Calls Try.prog 117 #[.pointer (some ⟨p, 0, none⟩), .int .i64 (n : Int)] w fun e w' => (∃ x : Nat, x < n ∧ e = .returned (.int .i64 (x : Int))) ∧ SR w' p u (k + 1) ∧ w.grownBy w' (some p) := by
  have HU := Lib.hid hu
  have HCS := Lib.hid hcs
  have HS := Lib.hid hs
  have HB := Lib.hid hb
  clear hu hcs hs hb
  go_enter Try.func117, Try.ntmps117
  go_wp2_with fail
  refine (s_next w0 p u cs k (by omega) _ HU.out HCS.out HB.out hp HS.out).mono ?_
  rintro z w1 ⟨⟨x, hx, rfl⟩, hs1, hg1⟩
  have HS1 := Lib.hid hs1
  have HG1 := Lib.hid hg1
  clear hs1 hg1
  have hm : ((x : Int)).tmod (n : Int) = ((x % n : Nat) : Int) := by rw [Int.tmod_eq_emod_of_nonneg (by omega)]; omega
  have hlt : x % n < n := Nat.mod_lt _ (by omega)
  have HM := Lib.hid (show (x : Int) % (n : Int) = ((x % n : Nat) : Int) by omega)
  clear hm
  go_wp2_with fail
  go_ret
  refine ⟨⟨x % n, hlt, ?_⟩, HS1.out, HG1.out⟩
  exact congrArg (fun z => Ending.returned (Value.int .i64 z)) HM.out

theorem s_l00From (u : Value) (w : World) (cs : List Int) (hu : GL (Value.int .u8) w u cs) :
    Calls Try.prog 53 #[u] w fun e w' => e = .returned (.pointer (some ⟨w.heap.size, 0, none⟩)) ∧ SR w' w.heap.size u 0 ∧ Below w.heap.size w w' ∧ w.heap.size + 1 ≤ w'.heap.size := by
  obtain ⟨ao, c, rfl, hc1, hc2⟩ := hu.slice
  clear hu
  go_enter Try.func53, Try.ntmps53
  go_wp2_with fail
  go_ret
  refine ⟨rfl, ⟨0, ?_⟩, by (repeat (first | with_reducible exact Below.refl _ _ | with_reducible assumption | with_reducible refine below_drewN ?_ _ | with_reducible refine Below.drew ?_ | with_reducible refine Below.alloc ?_ (by first | omega | (simp; omega) | (simp; done) | (simp at *; omega)) _ | with_reducible refine Below.setCell ?_ (by first | omega | (simp; omega) | (simp; done) | (simp at *; omega)) _ | refine Below.trans ?_ (Below.mono (by with_reducible assumption) (by first | omega | (simp; omega) | (simp; done) | (simp at *; omega))))), by simp⟩
  exact BK.new w [.slice ao cs.length c, .int .i64 0, .int .u64 0] _

theorem s_l03DrawOk (w0 : World) (p : Nat) (u : Value) (cs : List Int) (k : Nat) (n : Nat) (hk : k < 1000000) (hn2 : n ≤ 1000000) (w : World) (hu : GL (Value.int .u8) w0 u cs) (hcs : allU8 cs) (hb : Below w0.heap.size w0 w) (hp : w0.heap.size ≤ p) (hs : SR w p u k) (hpw : p < w.heap.size) :
    Calls Try.prog 54 #[.pointer (some ⟨p, 0, none⟩), .int .i64 (n : Int)] w fun e w' => (∃ v L, e = .returned v ∧ OW 33 w.heap.size w' v L ∧ L.length = n ∧ ∀ c ∈ L, isQ c) ∧ SR w' p u (k + n) ∧ w.grownBy w' (some p) := by
  have HU := Lib.hid hu
  have HCS := Lib.hid hcs
  have HS := Lib.hid hs
  have HB := Lib.hid hb
  clear hu hcs hs hb
  go_enter Try.func54, Try.ntmps54
  go_wp2_with fail
  go_loopw [1, 5] (fun m o wr => ∃ j : Nat, j ≤ n ∧ m = .int .i64 ((n - j : Nat) : Int) ∧ (∃ L : List Nat, Hid (OW 33 w.heap.size wr o L) ∧ L.length = j ∧ Hid (∀ c ∈ L, isQ c)) ∧ Hid (SR wr p u (k + j)) ∧ w.grownBy wr (some p)) (fun m _ _ => (intOf m).toNat)
  case atStart => exact ⟨0, Nat.zero_le _, by simp, ⟨[], OW.empty _ _ rfl (Nat.le_refl _), rfl, fun c hc => by cases hc⟩, ⟨HS.out.choose, BK.alloc HS.out.choose_spec _⟩, grown_of_below ((Below.refl _ _).alloc (Nat.le_refl _) _) _⟩
  case round =>
    obtain ⟨j, hj, rfl, ⟨L, HL, hjl, HQ⟩, HSR, hg⟩ := hrel
    have HJ := Lib.hid hjl
    clear hjl
    have hz := hg.size
    by_cases hlt : j < n
    · obtain ⟨m, hm⟩ : ∃ m, n - j = m + 1 := ⟨n - j - 1, by omega⟩
      rw [hm]
      have HM := Lib.hid hm
      clear hm
      have hmm : m < n := by have := HM.out; omega
      go_wp2_with fail
      refine (s_pick w0 p u cs (k + j) 33 (by omega) (by omega) (by omega) _ HU.out HCS.out (HB.out.grown hg HB.out.size (by intro g e; injection e with e; omega)) hp HSR.out).mono ?_
      rintro z w1 ⟨⟨x, hx, rfl⟩, hs1, hg1⟩
      have HS1 := Lib.hid hs1
      have HG1 := Lib.hid (grown_trans hg hg1)
      have hz1 := hg1.size
      have HL1 := Lib.hid (show OW 33 w.heap.size w1 _ L from OW.grown_keep HL.out hg1 (fun g e => by injection e with e; omega))
      clear hs1 hg1
      have HLN := Lib.hid (show L.length < 1099511627776 by rw [HJ.out]; omega)
      go_wp2_with (first | (refine wpList_ar .f32 _ _ rfl rfl rfl ?_; intro r n hr hlt) | (refine wpList_fc .f32 _ _ rfl rfl rfl ?_) | (refine wpList_fc_g rfl .f32 _ _ rfl rfl rfl ?_) | (refine wpList_ar_g rfl .f32 _ _ rfl rfl rfl ?_; intro r n hr hlt) | (at_builtin; refine wpList_app1 f32s w.heap.size u5 L rfl (by first | exact OW.drewN (OW.alloc HL1.out _) _ | exact OW.alloc HL1.out _) _ _ rfl (by simp; rfl) (by exact hlt) HLN.out (by simp; omega) ?_; intro v' w' ho' hg'; have HO' := Lib.hid ho'; have HG' := Lib.hid hg'; have HR := Lib.hid hr; clear ho' hg' hr hlt))
      have hne : ∀ g, u5.ownBlock = some g → w.heap.size ≤ g := HL1.out.own_ge
      refine ⟨⟨j + 1, by omega, ?_, ⟨_, HO', by rw [List.length_append, HJ.out]; rfl, ?_⟩, ?_, ?_⟩, by first | (simp [intOf]; done) | (simp [intOf]; omega)⟩
      · have := HM.out
        congr 1; omega
      · intro c hc
        rcases List.mem_append.1 hc with hc | hc
        · exact HQ.out c hc
        · rw [List.mem_singleton] at hc
          subst hc
          exact ⟨(x : Int) - 16, by omega, by omega, HR.out⟩
      · exact SR.grown80 (by first | exact SR.drewN80 (SR.alloc80 HS1.out _) _ | exact SR.alloc80 HS1.out _) HG'.out (fun e => by have := hne p e; omega)
      · exact grown_app (by first | exact grown_drewN80 (grown_trans HG1.out (World.grownBy_alloc _ _ _)) _ | exact grown_trans HG1.out (World.grownBy_alloc _ _ _)) HG'.out hne
    · go_wp2_with fail
      go_ret
      have hjn : j = n := by omega
      subst hjn
      exact ⟨⟨_, L, rfl, HL.out, HJ.out, HQ.out⟩, HSR.out, hg⟩

theorem s_B10List (u : Value) (cs : List Int) (n : Nat) (hn : n ≤ 1000000) (w : World) (hu : GL (Value.int .u8) w u cs) (hcs : allU8 cs) :
    Calls Try.prog 9 #[u, .int .i64 (n : Int)] w fun e w' => (∃ v L, e = .returned v ∧ OW 33 w.heap.size w' v L ∧ L.length = n ∧ ∀ c ∈ L, isQ c) ∧ Below w.heap.size w w' := by
  have HU := Lib.hid hu
  clear hu
  go_enter Try.func9, Try.ntmps9
  go_wp2_with fail
  refine (s_l00From u _ cs HU.out).mono ?_
  rintro z w1 ⟨rfl, hs1, hb1, hz1⟩
  have HS1 := Lib.hid hs1
  have HB1 := Lib.hid hb1
  clear hs1 hb1
  go_wp2_with fail
  refine (s_l03DrawOk w w.heap.size u cs 0 n (by omega) hn _ HU.out hcs HB1.out (Nat.le_refl _) HS1.out (by omega)).mono ?_
  rintro z w2 ⟨⟨v, L, rfl, ho, hl, hq⟩, hs2, hg2⟩
  have HO := Lib.hid ho
  have HL := Lib.hid hl
  have HQ := Lib.hid hq
  have HG := Lib.hid hg2
  clear ho hl hq hs2 hg2
  go_wp2_with fail
  go_ret
  exact ⟨⟨v, L, rfl, HO.out.down (by omega), HL.out, HQ.out⟩, HB1.out.grown HG.out HB1.out.size (by intro g e; injection e with e; omega)⟩

end Go.Proofs.Ytkkomajokdlkeaa
