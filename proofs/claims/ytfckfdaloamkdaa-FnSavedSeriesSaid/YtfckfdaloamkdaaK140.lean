/- Contracts: what FnSavedSeries draws out of bytes. -/
import Derived.Test.YtfckfdaloamkdaaK80

import Derived.Test.YtfckfdaloamkdaaRcl
namespace Go.Proofs.Ytfckfdaloamkdaa
set_option linter.unusedSimpArgs false
set_option linter.unusedVariables false
set_option maxRecDepth 100000
set_option maxHeartbeats 4000000
open Go.RowKit
attribute [local go_sem] run_store_float run_store_complex alloc_drewN setCell_drewN
theorem q4_fin : ∀ i : Fin 33, fin (q4 ((i.val : Int) - 16)) = true := by decide +kernel
theorem isQ_fin {c : Nat} (h : isQ c) : fin c = true := by
  obtain ⟨x, h1, h2, rfl⟩ := h
  have h := q4_fin ⟨(x + 16).toNat, by omega⟩
  have e : (((x + 16).toNat : Nat) : Int) - 16 = x := by omega
  have h2 : fin (q4 ((((x + 16).toNat : Nat) : Int) - 16)) = true := h
  rw [e] at h2
  exact h2

theorem s_l07DrawOk (w0 : World) (p : Nat) (u : Value) (cs : List Int) (k : Nat) (n : Nat) (hk : k < 1000000) (hn2 : n ≤ 1000000) (w : World) (hu : GL (Value.int .u8) w0 u cs) (hcs : allU8 cs) (hb : Below w0.heap.size w0 w) (hp : w0.heap.size ≤ p) (hs : SR w p u k) (hpw : p < w.heap.size) :
    Calls Try.prog 71 #[.pointer (some ⟨p, 0, none⟩), .int .i64 (n : Int)] w fun e w' => (∃ v L, e = .returned v ∧ OW 54 w.heap.size w' v L ∧ L.length = n ∧ ∀ c ∈ L, isQ c) ∧ SR w' p u (k + n) ∧ w.grownBy w' (some p) := by
  have HU := Lib.hid hu
  have HCS := Lib.hid hcs
  have HS := Lib.hid hs
  have HB := Lib.hid hb
  clear hu hcs hs hb
  go_enter Try.func71, Try.ntmps71
  go_wp2_with fail
  go_loopw [1, 5] (fun m o wr => ∃ j : Nat, j ≤ n ∧ m = .int .i64 ((n - j : Nat) : Int) ∧ (∃ L : List Nat, Hid (OW 54 w.heap.size wr o L) ∧ L.length = j ∧ Hid (∀ c ∈ L, isQ c)) ∧ Hid (SR wr p u (k + j)) ∧ w.grownBy wr (some p)) (fun m _ _ => (intOf m).toNat)
  case atStart => exact ⟨0, Nat.zero_le _, by simp, ⟨[], OW.empty _ _ rfl (Nat.le_refl _), rfl, fun c hc => by cases hc⟩, ⟨HS.out.choose, BK.alloc HS.out.choose_spec _⟩, grown_of_below ((Below.refl _ _).alloc (Nat.le_refl _) _) _⟩
  case round =>
    obtain ⟨j, hj, rfl, ⟨L, HL, hjl, HQ⟩, HSR, hg⟩ := hrel
    have HJ := Lib.hid hjl
    clear hjl
    have hz := hg.size
    by_cases hlt : j < n
    · obtain ⟨m, hm⟩ : ∃ m, n - j = m + 1 := ⟨n - j - 1, by omega⟩
      rw [hm]
      have HM := Lib.hid hm
      clear hm
      have hmm : m < n := by have := HM.out; omega
      go_wp2_with fail
      refine (s_pick w0 p u cs (k + j) 33 (by omega) (by omega) (by omega) _ HU.out HCS.out (HB.out.grown hg HB.out.size (by intro g e; injection e with e; omega)) hp HSR.out).mono ?_
      rintro z w1 ⟨⟨x, hx, rfl⟩, hs1, hg1⟩
      have HS1 := Lib.hid hs1
      have HG1 := Lib.hid (grown_trans hg hg1)
      have hz1 := hg1.size
      have HL1 := Lib.hid (show OW 54 w.heap.size w1 _ L from OW.grown_keep HL.out hg1 (fun g e => by injection e with e; omega))
      clear hs1 hg1
      have HLN := Lib.hid (show L.length < 1099511627776 by rw [HJ.out]; omega)
      go_wp2_with (first | (refine wpList_ar .f32 _ _ rfl rfl rfl ?_; intro r n hr hlt) | (refine wpList_fc .f32 _ _ rfl rfl rfl ?_) | (refine wpList_fc_g rfl .f32 _ _ rfl rfl rfl ?_) | (refine wpList_ar_g rfl .f32 _ _ rfl rfl rfl ?_; intro r n hr hlt) | (at_builtin; refine wpList_app1 f32s w.heap.size u5 L rfl (by first | exact OW.drewN (OW.alloc HL1.out _) _ | exact OW.alloc HL1.out _) _ _ rfl (by simp; rfl) (by exact hlt) HLN.out (by simp; omega) ?_; intro v' w' ho' hg'; have HO' := Lib.hid ho'; have HG' := Lib.hid hg'; have HR := Lib.hid hr; clear ho' hg' hr hlt))
      have hne : ∀ g, u5.ownBlock = some g → w.heap.size ≤ g := HL1.out.own_ge
      refine ⟨⟨j + 1, by omega, ?_, ⟨_, HO', by rw [List.length_append, HJ.out]; rfl, ?_⟩, ?_, ?_⟩, by first | (simp [intOf]; done) | (simp [intOf]; omega)⟩
      · have := HM.out
        congr 1; omega
      · intro c hc
        rcases List.mem_append.1 hc with hc | hc
        · exact HQ.out c hc
        · rw [List.mem_singleton] at hc
          subst hc
          exact ⟨(x : Int) - 16, by omega, by omega, HR.out⟩
      · exact SR.grown80 (by first | exact SR.drewN80 (SR.alloc80 HS1.out _) _ | exact SR.alloc80 HS1.out _) HG'.out (fun e => by have := hne p e; omega)
      · exact grown_app (by first | exact grown_drewN80 (grown_trans HG1.out (World.grownBy_alloc _ _ _)) _ | exact grown_trans HG1.out (World.grownBy_alloc _ _ _)) HG'.out hne
    · go_wp2_with fail
      go_ret
      have hjn : j = n := by omega
      subst hjn
      exact ⟨⟨_, L, rfl, HL.out, HJ.out, HQ.out⟩, HSR.out, hg⟩

theorem s_pickB (w0 : World) (p : Nat) (u : Value) (cs : List Int) (k : Nat) (n : Nat) (hk : k < 1000000000) (hn : 200 < n) (hn2 : n ≤ 100000) (w : World) (hu : GL (Value.int .u8) w0 u cs) (hcs : allU8 cs) (hb : Below w0.heap.size w0 w) (hp : w0.heap.size ≤ p) (hs : SR w p u k) :
    Calls Try.prog 69 #[.pointer (some ⟨p, 0, none⟩), .int .i64 (n : Int)] w fun e w' => (∃ x : Nat, x < n ∧ e = .returned (.int .i64 (x : Int))) ∧ SR w' p u (k + 2) ∧ w.grownBy w' (some p) := by
  have HU := Lib.hid hu
  have HCS := Lib.hid hcs
  have HS := Lib.hid hs
  have HB := Lib.hid hb
  clear hu hcs hs hb
  go_enter Try.func69, Try.ntmps69
  go_wp2_with fail
  refine (s_next w0 p u cs k (by omega) _ HU.out HCS.out HB.out hp HS.out).mono ?_
  rintro z w1 ⟨⟨x, hx, rfl⟩, hs1, hg1⟩
  have HS1 := Lib.hid hs1
  have HG1 := Lib.hid hg1
  have HB1 := Lib.hid (HB.out.grown hg1 HB.out.size (by intro g e; injection e with e; omega))
  clear hs1 hg1
  go_wp2_with fail
  refine (s_next w0 p u cs (k + 1) (by omega) _ HU.out HCS.out HB1.out hp HS1.out).mono ?_
  rintro z w2 ⟨⟨y, hy, rfl⟩, hs2, hg2⟩
  have HS2 := Lib.hid hs2
  have HG2 := Lib.hid (grown_trans HG1.out hg2)
  clear hs2 hg2
  have j1 : IntKind.i64.wrap ((x : Int) * 256) = (x : Int) * 256 := by rw [IntKind.wrap_i64]; omega
  have j2 : IntKind.i64.wrap ((x : Int) * 256 + (y : Int)) = (x : Int) * 256 + (y : Int) := by rw [IntKind.wrap_i64]; omega
  obtain ⟨q, hq⟩ : ∃ q, q = x * 256 + y := ⟨_, rfl⟩
  have j3 : (x : Int) * 256 + (y : Int) = (q : Int) := by omega
  rw [j3] at j2
  have hlt : q % n < n := Nat.mod_lt _ (by omega)
  have HM := Lib.hid (show (q : Int) % (n : Int) = ((q % n : Nat) : Int) by omega)
  have HM2 := Lib.hid (show (q : Int).tmod (n : Int) = ((q % n : Nat) : Int) by rw [Int.tmod_eq_emod_of_nonneg (by omega)]; omega)
  clear hq
  go_wp2_with fail
  go_ret
  refine ⟨⟨q % n, hlt, ?_⟩, HS2.out, HG2.out⟩
  first | exact congrArg (fun z => Ending.returned (Value.int .i64 z)) HM.out | exact congrArg (fun z => Ending.returned (Value.int .i64 z)) HM2.out

theorem s_text (w0 : World) (p : Nat) (u : Value) (cs : List Int) (k : Nat) (b n : Nat) (R : ByteArray → Prop) (hk : k < 1000000000) (hn : 1 < n) (hn2 : n ≤ 200) (w : World) (hu : GL (Value.int .u8) w0 u cs) (hcs : allU8 cs) (hb : Below w0.heap.size w0 w) (hp : w0.heap.size ≤ p) (hs : SR w p u k)
    (hbp : b ≠ p) (hc : ∀ i, i < n → ∃ s, R s ∧ w.cell? ⟨b, i, none⟩ = some (.string s)) :
    Calls Try.prog 70 #[.pointer (some ⟨p, 0, none⟩), .slice (some ⟨b, 0, none⟩) n n] w fun e w' => (∃ s, R s ∧ e = .returned (.string s)) ∧ SR w' p u (k + 1) ∧ w.grownBy w' (some p) := by
  have HU := Lib.hid hu
  have HCS := Lib.hid hcs
  have HS := Lib.hid hs
  have HB := Lib.hid hb
  have HC := Lib.hid hc
  clear hu hcs hs hb hc
  go_enter Try.func70, Try.ntmps70
  go_wp2_with fail
  refine (s_pick w0 p u cs k n (by omega) hn hn2 _ HU.out HCS.out HB.out hp HS.out).mono ?_
  rintro z w1 ⟨⟨x, hx, rfl⟩, hs1, hg1⟩
  obtain ⟨s, hR, hcell⟩ := HC.out x hx
  have hc1 := hg1.cell hcell (by intro e; exact hbp (by injection e))
  have HS1 := Lib.hid hs1
  have HG1 := Lib.hid hg1
  clear hs1 hg1 hcell
  have i1 : (x : Int) < (n : Int) := by omega
  have i2 : (0 : Int) ≤ (x : Int) := by omega
  go_wp2_with fail
  go_ret
  exact ⟨⟨s, hR, rfl⟩, HS1.out, HG1.out⟩

theorem RV.low {T1 T2 lo lo' hi : Nat} {w : World} {v : Value} {L : List Sd} (h : RV T1 T2 lo hi w v L) (hl : lo' ≤ lo) : RV T1 T2 lo' hi w v L := by
  obtain ⟨P, h1, h2, h3, h4, h5⟩ := h
  refine ⟨P, h1, ⟨h2.1, ?_⟩, fun x hx => ⟨(h3 x hx).1.down hl, (h3 x hx).2⟩, h4, h5⟩
  rcases h2.2 with h0 | ⟨g, cap, cur, hv, hg, rest⟩
  · exact .inl h0
  · exact .inr ⟨g, cap, cur, hv, Nat.le_trans hl hg, rest⟩
theorem RV.offs {T1 T2 lo hi q : Nat} {w w' : World} {v : Value} {L : List Sd} (h : RV T1 T2 lo hi w v L) (hg : w.grownBy w' (some q)) (hq : q < lo ∨ hi ≤ q) : RV T1 T2 lo hi w' v L := by
  obtain ⟨P, h1, h2, h3, h4, h5⟩ := h
  refine ⟨P, h1, h2.kept hg ?_, fun x hx => (h3 x hx).kept hg ?_, h4, h5⟩
  · cases hb : v.ownBlock with
    | none => exact .inl rfl
    | some g =>
      refine .inr fun e => ?_
      have e : g = q := by injection e
      have := (World.ownsRow.lt h2 g hb).1
      have := h5 g hb
      omega
  · cases hb : x.2.ownBlock with
    | none => exact .inl rfl
    | some g =>
      refine .inr fun e => ?_
      have e : g = q := by injection e
      have := ((h3 x hx).1.block g hb).1
      have := (h3 x hx).2.1 g hb
      omega
/-- The names that are drawn. -/
def namesOf : List ByteArray := [⟨#[97]⟩, ⟨#[114, 97, 105, 110]⟩, ⟨#[115, 111, 108, 100]⟩, ⟨#[122, 122]⟩]
theorem names_ok : ∀ s ∈ namesOf, nameB s = true ∧ s.size ≤ 8 := by decide
theorem storeDB (p j : Nat) (x : Int) : ∀ w, (Instr.storeAt 2 (.pointer (some ⟨p, j, none⟩)) (.int .i64 x)).run Try.prog w = (store ⟨p, j, none⟩ (.int .i64 x) .plain).run Try.prog w := by intro w; go_simp
theorem okS_drawn {s : ByteArray} (hs : s ∈ namesOf) {d : Int} (h1 : -20000 ≤ d) (h2 : d ≤ 20000) {w : World} {v : Value} {cs : List Nat} (hv : SB w v cs) (hl : 1 ≤ cs.length) (hl2 : cs.length ≤ 6) (hq : ∀ c ∈ cs, isQ c) : okS (s, d, cs) := by
  refine ⟨?_, cnN_sb hv s d⟩
  have ha : allFin cs = true := by
    unfold allFin
    rw [List.all_eq_true]
    exact fun c hc => isQ_fin (hq c hc)
  show (nameB s && inB d (-1000000) 1000000 && series cs) = true
  rw [(names_ok s hs).1, (inB_iff _ _ _).2 ⟨by omega, by omega⟩, series, decide_eq_true hl, decide_eq_true (by omega), ha]
  rfl
set_option maxRecDepth 100000 in
theorem s_B10Saved (u : Value) (cs : List Int) (w : World) (hu : GL (Value.int .u8) w u cs) (hcs : allU8 cs) :
    Calls Try.prog 35 #[u] w fun e w' => (∃ v L, e = .returned v ∧ RV 34 54 w.heap.size w'.heap.size w' v L ∧ L.length ≤ 4 ∧ ∀ x ∈ L, okS x) ∧ Below w.heap.size w w' := by
  have HU := Lib.hid hu
  have HCS := Lib.hid hcs
  clear hu hcs
  obtain ⟨i0, hi0, hz0, hz1, hz2⟩ := info_parts savedInfo
  have HI0 := Lib.hid hi0; have HZ0 := Lib.hid hz0; have HZ1 := Lib.hid hz1; have HZ2 := Lib.hid hz2
  clear hi0 hz0 hz1 hz2
  go_enter Try.func35, Try.ntmps35
  go_wp2_with fail
  refine (s_l00From u _ cs HU.out).mono ?_
  rintro z w1 ⟨rfl, hs1, hb1, hz1⟩
  obtain ⟨p, hp⟩ : ∃ p, p = w.heap.size := ⟨_, rfl⟩
  rw [← hp] at hs1 ⊢
  have hp0 : w.heap.size ≤ p := by omega
  have hp1 : p < w.heap.size + 1 := by omega
  have HS1 := Lib.hid (SR.alloc80 hs1 (.cells #[] 34))
  have HB1 := Lib.hid (hb1.alloc hb1.size (.cells #[] 34))
  have HV1 := Lib.hid (RV.empty (T1 := 34) (T2 := 54) (lo := w.heap.size + 1) (hi := w1.heap.size + 1) (w := w1) rfl (by omega) (Nat.lt_succ_self _))
  clear hs1 hb1 hp
  go_wp2_with fail
  refine (s_pick w p u cs 0 5 (by omega) (by omega) (by omega) _ HU.out HCS.out HB1.out hp0 HS1.out).mono ?_
  rintro z w2 ⟨⟨n, hn, rfl⟩, hs2, hg2⟩
  have HS2 := Lib.hid hs2
  have HB2 := Lib.hid (HB1.out.grown hg2 HB1.out.size (by intro g e; injection e with e; omega))
  have hz2 := hg2.size
  (try simp only [World.size_alloc] at hz2)
  have HV2 := Lib.hid (HV1.out.offs hg2 (.inl hp1))
  clear hs2 hg2 HS1 HB1 HV1
  go_wp2_with fail
  go_loopw [5, 4] (fun m o wr => ∃ (j k : Nat) (L : List Sd), j + L.length = n ∧ k ≤ 1 + 100 * L.length ∧ m = .int .i64 (j : Int) ∧ Hid (RV 34 54 (w.heap.size + 1) wr.heap.size wr o L) ∧ Hid (∀ x ∈ L, okS x) ∧ Hid (SR wr p u k) ∧ Hid (Below w.heap.size w wr) ∧ w.heap.size + 1 ≤ wr.heap.size) (fun m _ _ => (intOf m).toNat)
  case atStart => exact ⟨n, 1, [], rfl, by simp, rfl, Lib.hid (HV2.out.mono (by omega)), Lib.hid (by simp), HS2, HB2, by omega⟩
  case round =>
    clear HV2 HS2 HB2 hz2 hz1
    obtain ⟨j, k, L, hjn, hk, rfl, HV, HOK, HS, HB, hsz⟩ := hrel
    obtain ⟨ao, c, rfl, hc1, hc2⟩ := HV.out.slice
    cases j with
    | zero =>
      have hz : ¬ (0 : Int) < ((0 : Nat) : Int) := by omega
      go_wp2_with fail
      go_ret
      first | exact ⟨⟨_, L, rfl, RV.low HV.out (Nat.le_succ _), by omega, HOK.out⟩, HB.out⟩ | exact ⟨⟨_, rfl, L, RV.low HV.out (Nat.le_succ _), by omega, fun s d cs h => HOK.out _ h⟩, HB.out⟩
    | succ m =>
      have hL : L.length < 4 := by omega
      simp only [Int.natCast_add, Int.natCast_one]
      have t0 : (0 : Int) < (m : Int) + 1 := by omega
      have t8 : IntKind.i64.wrap (m : Int) = (m : Int) := by rw [IntKind.wrap_i64]; omega
      have t9 : (m : Int) + 1 - 1 = (m : Int) := by omega
      have HSa := Lib.hid (SR.alloc80 HS.out (.cells #[.string ⟨#[97]⟩, .string ⟨#[114, 97, 105, 110]⟩, .string ⟨#[115, 111, 108, 100]⟩, .string ⟨#[122, 122]⟩] 9))
      have HBa := Lib.hid (HB.out.alloc HB.out.size (.cells #[.string ⟨#[97]⟩, .string ⟨#[114, 97, 105, 110]⟩, .string ⟨#[115, 111, 108, 100]⟩, .string ⟨#[122, 122]⟩] 9))
      have HVa := Lib.hid (HV.out.alloc (.cells #[.string ⟨#[97]⟩, .string ⟨#[114, 97, 105, 110]⟩, .string ⟨#[115, 111, 108, 100]⟩, .string ⟨#[122, 122]⟩] 9))
      have HCa := Lib.hid (show ∀ i, i < 4 → ∃ s, s ∈ namesOf ∧ (wr.alloc (.cells #[.string ⟨#[97]⟩, .string ⟨#[114, 97, 105, 110]⟩, .string ⟨#[115, 111, 108, 100]⟩, .string ⟨#[122, 122]⟩] 9)).cell? ⟨wr.heap.size, i, none⟩ = some (.string s) from fun i hi => by
        have h := BK.new wr [.string ⟨#[97]⟩, .string ⟨#[114, 97, 105, 110]⟩, .string ⟨#[115, 111, 108, 100]⟩, .string ⟨#[122, 122]⟩] 9
        match i, hi with
        | 0, _ => exact ⟨⟨#[97]⟩, by simp [namesOf], h.at (i := 0) rfl⟩
        | 1, _ => exact ⟨⟨#[114, 97, 105, 110]⟩, by simp [namesOf], h.at (i := 1) rfl⟩
        | 2, _ => exact ⟨⟨#[115, 111, 108, 100]⟩, by simp [namesOf], h.at (i := 2) rfl⟩
        | 3, _ => exact ⟨⟨#[122, 122]⟩, by simp [namesOf], h.at (i := 3) rfl⟩)
      clear HS HB HV
      go_wp2_with fail
      refine (s_text w p u cs k wr.heap.size 4 (· ∈ namesOf) (by omega) (by omega) (by omega) _ HU.out HCS.out HBa.out hp0 HSa.out (by omega) HCa.out).mono ?_
      rintro z w3 ⟨⟨s, hs, rfl⟩, hs3, hg3⟩
      have hnm := (names_ok s hs).2
      have HN := Lib.hid hs
      have hz3 := hg3.size
      (try simp only [World.size_alloc] at hz3)
      have HS3 := Lib.hid hs3
      have HB3 := Lib.hid (HBa.out.grown hg3 HBa.out.size (by intro g e; injection e with e; omega))
      have HV3 := Lib.hid (HVa.out.offs hg3 (.inl hp1))
      clear hs hs3 hg3 HSa HBa HVa HCa
      obtain ⟨q, hq⟩ : ∃ q, q = w3.heap.size := ⟨_, rfl⟩
      have HQ := Lib.hid hq
      have hqr : wr.heap.size + 1 ≤ q := by omega
      have hpq : p ≠ q := by omega
      have hwq : w.heap.size ≤ q := by omega
      clear hq
      go_wp2_with (refine wpList_storeAgg (us := [.string s, .int .i64 0, .slice none 0 0]) (storeSd _ _ _ _ _ _ _) rfl rfl (by simp [Value.oneCell']) (BK.new _ [.string ⟨#[]⟩, .int .i64 0, .slice none 0 0] _) (by simp) ?_; intro w4 hE hO hL2 hZ hG; have hb2 := hL2 _ _ ((Below.refl w3.heap.size w3).alloc (Nat.le_refl _) _) (Nat.le_refl _); have HV4 := Lib.hid (HV3.out.keep hb2); have HS4 := Lib.hid (show SR w4 p u (k + 1) from ⟨HS3.out.choose, HS3.out.choose_spec.keep hb2⟩); have HB4 := Lib.hid (HB3.out.trans (hb2.mono HB3.out.size)); (try simp only [World.size_alloc] at hZ); simp [setsAt] at hE; have HE4 := Lib.hid (show BK w4 q [.string s, .int .i64 0, .slice none 0 0] by rw [HQ.out]; exact hE); clear hE hO hL2 hG HV3 HS3 HB3 hb2)
      rw [← HQ.out]
      refine (s_pickB w p u cs (k + 1) 40000 (by omega) (by omega) (by omega) _ HU.out HCS.out HB4.out hp0 HS4.out).mono ?_
      rintro z w5 ⟨⟨x, hx, rfl⟩, hs5, hg5⟩
      have HS5 := Lib.hid hs5
      have HB5 := Lib.hid (HB4.out.grown hg5 HB4.out.size (by intro g e; injection e with e; omega))
      have HV5 := Lib.hid (HV4.out.offs hg5 (.inl hp1))
      have HE5 := Lib.hid (HE4.out.grown80 hg5 (by intro e; injection e with e; omega))
      have hz5 := hg5.size
      clear hs5 hg5 HS4 HB4 HV4 HE4
      have t1 : IntKind.i64.wrap ((x : Int) - 20000) = (x : Int) - 20000 := by rw [IntKind.wrap_i64]; omega
      go_wp2_with (refine wpList_storeBK3 (storeDB _ _ _) rfl rfl rfl HE5.out (by simp) ?_; intro w6 hE hO hL2 hZ6 hG; have HB6 := Lib.hid (hL2 _ _ HB5.out hwq); have HV6 := Lib.hid (HV5.out.offs hG (.inr (by omega))); have HS6 := Lib.hid (HS5.out.grown80 hG (by intro e; injection e with e; omega)); simp only [List.set_cons_zero, List.set_cons_succ] at hE; have HE6 := Lib.hid hE; clear hE hO hL2 hG HB5 HV5 HS5 HE5)
      refine (s_pick w p u cs (k + 1 + 2) 6 (by omega) (by omega) (by omega) _ HU.out HCS.out HB6.out hp0 HS6.out).mono ?_
      rintro z w7 ⟨⟨y, hy, rfl⟩, hs7, hg7⟩
      have HS7 := Lib.hid hs7
      have HB7 := Lib.hid (HB6.out.grown hg7 HB6.out.size (by intro g e; injection e with e; omega))
      have HV7 := Lib.hid (HV6.out.offs hg7 (.inl hp1))
      have HE7 := Lib.hid (HE6.out.grown80 hg7 (by intro e; injection e with e; omega))
      have hz7 := hg7.size
      clear hs7 hg7 HS6 HB6 HV6 HE6
      obtain ⟨N, hN⟩ : ∃ N, N = y + 1 := ⟨_, rfl⟩
      have t2 : (1 : Int) + (y : Int) = (N : Int) := by omega
      have t3 : IntKind.i64.wrap (N : Int) = (N : Int) := by rw [IntKind.wrap_i64]; omega
      have hN1 : 1 ≤ N := by omega
      have hN6 : N ≤ 6 := by omega
      clear hN
      go_wp2_with fail
      refine (s_l07DrawOk w p u cs (k + 1 + 2 + 1) N (by omega) (by omega) _ HU.out HCS.out HB7.out hp0 HS7.out (by omega)).mono ?_
      rintro z w8 ⟨⟨vn, cn8, rfl, ho8, hl8, hq8⟩, hs8, hg8⟩
      have HS8 := Lib.hid hs8
      have HB8 := Lib.hid (HB7.out.grown hg8 HB7.out.size (by intro g e; injection e with e; omega))
      have HV8 := Lib.hid (HV7.out.offs hg8 (.inl hp1))
      have HE8 := Lib.hid (HE7.out.grown80 hg8 (by intro e; injection e with e; omega))
      have HO8 := Lib.hid ho8
      have HL8 := Lib.hid hl8
      have HQ8 := Lib.hid hq8
      have hz8 := hg8.size
      obtain ⟨un, uc, rfl, hul⟩ := ho8.sb.slice
      clear hs8 hg8 HS7 HB7 HV7 HE7 ho8 hl8 hq8
      have hzq : q < w7.heap.size := by have := HQ.out; omega
      go_wp2_with (first
        | (refine wpList_storeBK3 (storeF _ _ _ _ _) rfl rfl rfl HE8.out (by simp) ?_; intro w9 hE hO hL2 hZ9 hG; have HB9 := Lib.hid (hL2 _ _ HB8.out hwq); have HV9 := Lib.hid (HV8.out.offs hG (.inr (by omega))); have HS9 := Lib.hid (HS8.out.grown80 hG (by intro e; injection e with e; omega)); have HO9 := Lib.hid (OW.grown_keep HO8.out hG (fun g e => by injection e with e; omega)); simp only [List.set_cons_zero, List.set_cons_succ] at hE; have HE9 := Lib.hid hE; have hs0 := hE.at (i := 0) rfl; have hs1 := hE.at (i := 1) rfl; have hs2 := hE.at (i := 2) rfl; clear hE hO hL2 hG HB8 HV8 HS8 HE8 HO8)
        | (at_builtin; clear hs0 hs1 hs2; refine wpList_rvpush rfl _ _ _ rfl (T2 := 54) (k := w7.heap.size) i0 _ Try.underlying25 HI0.out HZ0.out HZ1.out HZ2.out rfl (by decide) _ L rfl (HV9.out.alloc (.cells #[.string s, .int .i64 ((x : Int) - 20000), .slice un cn8.length uc] 34)) s ((x : Int) - 20000) cn8 (.slice un cn8.length uc) (HO9.out.alloc _) rfl (by omega) (by omega) (by omega) (by simp; omega) w9.heap.size 1 rfl (by simp) (by simp) (by simp) (by omega) ?_
           intro v2 w10 hV hg hlo; have hz10 := hg.size; (try simp only [World.size_alloc] at hz10); have HV10 := Lib.hid hV; have HB10 := Lib.hid (show Below w.heap.size w w10 from (HB9.out.alloc HB9.out.size _).grown hg (by simp; omega) (fun g e => Nat.le_of_succ_le (hlo g e))); have HS10 := Lib.hid (SR.grown80 (SR.alloc80 HS9.out _) hg (fun e => by have := hlo p e; omega)); clear hV hg hlo HV9 HB9 HS9))
      have hl8 := HL8.out
      have HX := Lib.hid (show okS (s, (x : Int) - 20000, cn8) from okS_drawn HN.out (by omega) (by omega) HO9.out.sb (by omega) (by omega) HQ8.out)
      refine ⟨⟨m, k + 1 + 2 + 1 + N, L ++ [(s, (x : Int) - 20000, cn8)], by simp; omega, by simp; omega, rfl, HV10, Lib.hid (fun z hz => ?_), HS10, HB10, by omega⟩, by simp [intOf]⟩
      rcases List.mem_append.1 hz with hz | hz
      · exact HOK.out z hz
      · rw [List.mem_singleton.1 hz]; exact HX.out

end Go.Proofs.Ytfckfdaloamkdaa
