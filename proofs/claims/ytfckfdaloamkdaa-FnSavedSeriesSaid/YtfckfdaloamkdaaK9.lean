/- Contracts: what is saved, and whether it is valid. -/
import Derived.Test.YtfckfdaloamkdaaK6
import Derived.Deep.RegionWith
import Derived.Deep.RegionHeld
namespace Go.Proofs.Ytfckfdaloamkdaa
set_option linter.unusedSimpArgs false
set_option linter.unusedVariables false
set_option maxRecDepth 100000
set_option maxHeartbeats 4000000
set_option linter.unusedSimpArgs false
set_option linter.unusedVariables false
open Go.RowKit
attribute [local go_sem] run_store_float run_store_complex alloc_drewN setCell_drewN

def lowB (b : UInt8) : Bool := decide (97 ≤ (b.toNat : Int)) && decide ((b.toNat : Int) ≤ 122)
/-- 1 to 8 letters. -/
def nameB (s : ByteArray) : Bool := s.data.toList.all lowB && decide (1 ≤ s.size) && decide (s.size ≤ 8)
def savedOk (s : ByteArray) (d : Int) (cs : List Nat) : Bool := nameB s && inB d (-1000000) 1000000 && series cs
theorem SB.slice {w : World} {v : Value} {cs : List Nat} (h : SB w v cs) : ∃ ao c, v = .slice ao cs.length c ∧ cs.length ≤ 9223372036854775807 := h.sl.slice

theorem name_take {s : ByteArray} {k : Nat} (hk : k < s.size) (h1 : (s.data.toList.take k).all lowB = true) (h2 : lowB s[k] = true) : (s.data.toList.take (k + 1)).all lowB = true := by
  have hl : k < s.data.toList.length := by simpa using hk
  rw [take_snoc _ k hl, List.all_append, h1]
  have : s.data.toList[k] = s[k] := by simp [ByteArray.getElem_eq_getElem_data]
  simp [this, h2]
theorem name_no {s : ByteArray} {k : Nat} (hk : k < s.size) (h2 : lowB s[k] = false) : nameB s = false := by
  have hl : k < s.data.toList.length := by simpa using hk
  have : s.data.toList[k] = s[k] := by simp [ByteArray.getElem_eq_getElem_data]
  have h3 : s.data.toList.all lowB = false := by
    rw [List.all_eq_false]
    exact ⟨s.data.toList[k], List.getElem_mem hl, by rw [this, h2]; simp⟩
  simp [nameB, h3]

theorem OW.setBelow {T base : Nat} {w : World} {v : Value} {cs : List Nat} (h : OW T base w v cs) {a : Addr} (ha : a.block < base) (u : Value) : OW T base (w.setCell a u) v cs := by
  obtain ⟨xs, h1, h2⟩ := h
  exact ⟨xs, ownsRow_setCell_below h1 ha u, h2⟩

theorem i_IsName (s : ByteArray) (hs : s.size ≤ 9223372036854775807) (w : World) : Calls Try.prog 72 #[.string s] w fun e w' => e = .returned (.bool (nameB s)) ∧ Dr w w' := by
  go_enter Try.func72, Try.ntmps72
  go_wp2_with fail
  go_loopw [6] (fun i wr => ∃ k : Nat, k ≤ s.size ∧ i = .int .i64 k ∧ Hid ((s.data.toList.take k).all lowB = true) ∧ ∃ d, wr = w.drewN d) (fun i _ => s.size - (intOf i).toNat)
  case atStart => exact ⟨0, Nat.zero_le _, rfl, by simp [Hid], 0, rfl⟩
  case round =>
    obtain ⟨k, hk, rfl, H1, d, rfl⟩ := hrel
    by_cases hlt : k < s.size
    · by_cases h1 : 97 ≤ (s[k].toNat : Int)
      · by_cases h2 : (s[k].toNat : Int) ≤ 122
        · have HL := Lib.hid (show lowB s[k] = true by simp [lowB, h1, h2])
          go_wp2_with fail
          refine ⟨⟨k + 1, by omega, by go_num, name_take hlt H1.out HL.out, _, rfl⟩, by simp [intOf]; omega⟩
        · have HL := Lib.hid (show lowB s[k] = false by simp [lowB, h2])
          go_wp2_with fail
          go_ret
          exact ⟨ret_bool (name_no hlt HL.out).symm, _, rfl⟩
      · have HL := Lib.hid (show lowB s[k] = false by simp [lowB, h1])
        go_wp2_with fail
        go_ret
        exact ⟨ret_bool (name_no hlt HL.out).symm, _, rfl⟩
    · have HA := Lib.hid (show s.data.toList.all lowB = true by
        have h1 := H1.out
        rw [List.take_of_length_le (by simp; omega)] at h1
        exact h1)
      by_cases h3 : 1 ≤ (s.size : Int)
      all_goals
        by_cases h4 : (s.size : Int) ≤ 8
        all_goals
          go_wp2_with fail
          go_ret
          refine ⟨ret_bool ?_, _, rfl⟩
          have h5 : (1 ≤ s.size) = (1 ≤ (s.size : Int)) := by apply propext; omega
          have h6 : (s.size ≤ 8) = ((s.size : Int) ≤ 8) := by apply propext; omega
          simp [nameB, HA.out, h5, h6, h3, h4]

theorem s_l07Name (s : ByteArray) (hs : s.size ≤ 9223372036854775807) (w : World) : Calls Try.prog 93 #[.string s] w fun e w' => e = .returned (.bool (nameB s)) ∧ Dr w w' := by
  go_enter Try.func93, Try.ntmps93
  go_wp2_with fail
  go_loopw [3] (fun i wr => ∃ k : Nat, k ≤ s.size ∧ i = .int .i64 k ∧ Hid ((s.data.toList.take k).all lowB = true) ∧ ∃ d, wr = w.drewN d) (fun i _ => s.size - (intOf i).toNat)
  case atStart => exact ⟨0, Nat.zero_le _, rfl, by simp [Hid], 0, rfl⟩
  case round =>
    obtain ⟨k, hk, rfl, H1, d, rfl⟩ := hrel
    by_cases hlt : k < s.size
    · by_cases h1 : 97 ≤ (s[k].toNat : Int)
      · by_cases h2 : (s[k].toNat : Int) ≤ 122
        · have HL := Lib.hid (show lowB s[k] = true by simp [lowB, h1, h2])
          go_wp2_with fail
          refine ⟨⟨k + 1, by omega, by go_num, name_take hlt H1.out HL.out, _, rfl⟩, by simp [intOf]; omega⟩
        · have HL := Lib.hid (show lowB s[k] = false by simp [lowB, h2])
          go_wp2_with fail
          go_ret
          exact ⟨ret_bool (name_no hlt HL.out).symm, _, rfl⟩
      · have HL := Lib.hid (show lowB s[k] = false by simp [lowB, h1])
        go_wp2_with fail
        go_ret
        exact ⟨ret_bool (name_no hlt HL.out).symm, _, rfl⟩
    · have HA := Lib.hid (show s.data.toList.all lowB = true by
        have h1 := H1.out
        rw [List.take_of_length_le (by simp; omega)] at h1
        exact h1)
      by_cases h3 : 1 ≤ (s.size : Int)
      all_goals
        by_cases h4 : (s.size : Int) ≤ 8
        all_goals
          go_wp2_with fail
          go_ret
          refine ⟨ret_bool ?_, _, rfl⟩
          have h5 : (1 ≤ s.size) = (1 ≤ (s.size : Int)) := by apply propext; omega
          have h6 : (s.size ≤ 8) = ((s.size : Int) ≤ 8) := by apply propext; omega
          simp [nameB, HA.out, h5, h6, h3, h4]

theorem i_ValidSaved (s : ByteArray) (hs : s.size ≤ 9223372036854775807) (d : Int) (v : Value) (cs : List Nat) (w : World) (hv : SL w v cs) :
    Calls Try.prog 36 #[.agg #[.string s, .int .i64 d, v]] w fun e w' => e = .returned (.bool (savedOk s d cs)) ∧ Below w.heap.size w w' := by
  obtain ⟨ao, c, rfl, hlen⟩ := hv.slice
  have HV := Lib.hid hv
  clear hv
  go_enter Try.func36, Try.ntmps36
  go_wp2_with (first | (go_at_call 72; refine (i_IsName s hs _).mono ?_; rintro z w1 ⟨rfl, n1, rfl⟩) | (go_at_call 73; refine (i_within _ _ _ _).mono ?_; rintro z w2 ⟨rfl, n2, rfl⟩) | (go_at_call 74; refine (i_IsSeries _ cs _ (by first | exact SL.drewN (SL.keep HV.out (by (repeat (first | exact Below.refl _ _ | assumption | refine below_drewN ?_ _ | refine Below.drew ?_ | refine Below.alloc ?_ (by first | omega | (simp; omega) | (simp; done) | (simp at *; omega)) _ | refine Below.setCell ?_ (by first | omega | (simp; omega) | (simp; done) | (simp at *; omega)) _ | refine Below.trans ?_ (Below.mono (by assumption) (by first | omega | (simp; omega) | (simp; done) | (simp at *; omega))))))) _ | exact SL.keep HV.out (by (repeat (first | exact Below.refl _ _ | assumption | refine below_drewN ?_ _ | refine Below.drew ?_ | refine Below.alloc ?_ (by first | omega | (simp; omega) | (simp; done) | (simp at *; omega)) _ | refine Below.setCell ?_ (by first | omega | (simp; omega) | (simp; done) | (simp at *; omega)) _ | refine Below.trans ?_ (Below.mono (by assumption) (by first | omega | (simp; omega) | (simp; done) | (simp at *; omega)))))))).mono ?_; rintro z w3 ⟨rfl, n3, rfl⟩))
  all_goals
    go_ret
    refine ⟨ret_bool ?_, ?_⟩
  all_goals first | ((repeat (first | exact Below.refl _ _ | assumption | refine below_drewN ?_ _ | refine Below.drew ?_ | refine Below.alloc ?_ (by first | omega | (simp; omega) | (simp; done) | (simp at *; omega)) _ | refine Below.setCell ?_ (by first | omega | (simp; omega) | (simp; done) | (simp at *; omega)) _ | refine Below.trans ?_ (Below.mono (by assumption) (by first | omega | (simp; omega) | (simp; done) | (simp at *; omega))))); done) | (simp [savedOk, *]; done) | trace_state

theorem s_l07Saved (p : Nat) (s : ByteArray) (hs : s.size ≤ 9223372036854775807) (d : Int) (v : Value) (cs : List Nat) (w : World) (hp : CA w p [.string s, .int .i64 d, v]) (hv : SL w v cs) :
    Calls Try.prog 56 #[.pointer (some ⟨p, 0, none⟩)] w fun e w' => e = .returned (.bool (savedOk s d cs)) ∧ Dr w w' := by
  obtain ⟨ao, c, rfl, hlen⟩ := hv.slice
  have HV := Lib.hid hv
  clear hv
  have h0 := hp.2 0 _ rfl
  have h1 := hp.2 1 _ rfl
  have h2 := hp.2 2 _ rfl
  clear hp
  go_enter Try.func56, Try.ntmps56
  go_wp2_with (first | (go_at_call 93; refine (s_l07Name s hs _).mono ?_; rintro z w1 ⟨rfl, n1, rfl⟩) | (go_at_call 94; refine (s_l00In _ _ _ _).mono ?_; rintro z w2 ⟨rfl, n2, rfl⟩) | (go_at_call 95; refine (s_l02Series _ cs _ (by first | exact SL.drewN HV.out _ | exact HV.out)).mono ?_; rintro z w3 ⟨rfl, n3, rfl⟩))
  all_goals
    go_ret
    refine ⟨ret_bool ?_, Dr.mk _ _⟩
    simp [savedOk, *]

theorem s_ValidSaved (s : ByteArray) (hs : s.size ≤ 9223372036854775807) (d : Int) (v : Value) (cs : List Nat) (w : World) (hv : SL w v cs) :
    Calls Try.prog 49 #[.agg #[.string s, .int .i64 d, v]] w fun e w' => e = .returned (.bool (savedOk s d cs)) ∧ Below w.heap.size w w' := by
  obtain ⟨ao, c, rfl, hlen⟩ := hv.slice
  have HV := Lib.hid hv
  clear hv
  go_enter Try.func49, Try.ntmps49
  go_wp2_with (go_at_call 56; refine (s_l07Saved _ s hs d _ cs _ (CA.new _ _ _ _ rfl rfl) (SL.keep HV.out (by (repeat (first | exact Below.refl _ _ | assumption | refine below_drewN ?_ _ | refine Below.drew ?_ | refine Below.alloc ?_ (by first | omega | (simp; omega) | (simp; done) | (simp at *; omega)) _ | refine Below.setCell ?_ (by first | omega | (simp; omega) | (simp; done) | (simp at *; omega)) _ | refine Below.trans ?_ (Below.mono (by assumption) (by first | omega | (simp; omega) | (simp; done) | (simp at *; omega)))))))).mono ?_; rintro z w1 ⟨rfl, n, rfl⟩)
  go_ret
  refine ⟨rfl, ?_⟩
  (repeat (first | exact Below.refl _ _ | assumption | refine below_drewN ?_ _ | refine Below.drew ?_ | refine Below.alloc ?_ (by first | omega | (simp; omega) | (simp; done) | (simp at *; omega)) _ | refine Below.setCell ?_ (by first | omega | (simp; omega) | (simp; done) | (simp at *; omega)) _ | refine Below.trans ?_ (Below.mono (by assumption) (by first | omega | (simp; omega) | (simp; done) | (simp at *; omega)))))

theorem l_toSaved (s : ByteArray) (d : Int) (v : Value) (cs : List Nat) (w : World) (hv : SB w v cs) (hn : cs.length < 1099511627776) :
    Calls Try.prog 21 #[.agg #[.string s, .int .i64 d, v]] w fun e w' => (∃ u, e = .returned (.agg #[.string s, .int .i64 d, u]) ∧ OW 54 w.heap.size w' u cs) ∧ Below w.heap.size w w' := by
  obtain ⟨ao, c, rfl, hlen⟩ := hv.slice
  have HV := Lib.hid hv
  clear hv
  go_enter Try.func21, Try.ntmps21
  go_wp2_with (go_at_call 58; refine (l_toFloat32S _ cs _ (SB.keep HV.out (by (repeat (first | exact Below.refl _ _ | assumption | refine below_drewN ?_ _ | refine Below.drew ?_ | refine Below.alloc ?_ (by first | omega | (simp; omega) | (simp; done) | (simp at *; omega)) _ | refine Below.setCell ?_ (by first | omega | (simp; omega) | (simp; done) | (simp at *; omega)) _ | refine Below.trans ?_ (Below.mono (by assumption) (by first | omega | (simp; omega) | (simp; done) | (simp at *; omega))))))) hn).mono ?_; rintro z w1 ⟨u, rfl, hu, hb1⟩; obtain ⟨bo, cc, rfl, hcc⟩ := hu.sb.slice; have HU := Lib.hid hu; clear hu; have hz1 := hb1.size; (try simp only [World.size_alloc, World.size_drew, World.heap_drewN, World.size_setCell] at hz1); have hp1 : w.heap.size + 3 ≤ w1.heap.size := (by omega); obtain ⟨hc1, hf1⟩ := bcellN (N := w.heap.size + 3) hb1 (by first | omega | (simp; done) | (simp; omega)))
  have q0 : w1.cell? ⟨w.heap.size + 1, 0, none⟩ = some (.string ⟨#[]⟩) := (hc1 (w.heap.size + 1) 0 (by omega)).trans (by go_simp)
  have q1 : w1.cell? ⟨w.heap.size + 1, 1, none⟩ = some (.int .i64 0) := (hc1 (w.heap.size + 1) 1 (by omega)).trans (by go_simp)
  have q2 : w1.cell? ⟨w.heap.size + 1, 2, none⟩ = some (.slice none 0 0) := (hc1 (w.heap.size + 1) 2 (by omega)).trans (by go_simp)
  have q3 : ∀ o, (w1.setCell ⟨w.heap.size + 1 + 1, 2, none⟩ (.slice bo cs.length cc)).cell? ⟨w.heap.size + 1, o, none⟩ = w1.cell? ⟨w.heap.size + 1, o, none⟩ := fun o => World.cell?_setCell_far _ _ _ _ (by simp)
  have q4 : (w1.setCell ⟨w.heap.size + 1 + 1, 2, none⟩ (.slice bo cs.length cc)).cell? ⟨w.heap.size + 1, 0, none⟩ = some (.string ⟨#[]⟩) := (q3 0).trans q0
  have y0 : ((w1.setCell ⟨w.heap.size + 1 + 1, 2, none⟩ (.slice bo cs.length cc)).setCell ⟨w.heap.size + 1, 0, none⟩ (.string s)).cell? ⟨w.heap.size + 1, 0, none⟩ = some (.string s) := World.cell?_setCell_same _ _ _ q4
  have y1 : (((w1.setCell ⟨w.heap.size + 1 + 1, 2, none⟩ (.slice bo cs.length cc)).setCell ⟨w.heap.size + 1, 0, none⟩ (.string s)).setCell ⟨w.heap.size + 1, 1, none⟩ (.int .i64 d)).cell? ⟨w.heap.size + 1, 1, none⟩ = some (.int .i64 d) :=
    World.cell?_setCell_same _ _ _ ((World.cell?_setCell_other _ _ _ _ (by simp)).trans ((q3 1).trans q1))
  have y2 : ((((w1.setCell ⟨w.heap.size + 1 + 1, 2, none⟩ (.slice bo cs.length cc)).setCell ⟨w.heap.size + 1, 0, none⟩ (.string s)).setCell ⟨w.heap.size + 1, 1, none⟩ (.int .i64 d)).setCell ⟨w.heap.size + 1, 2, none⟩ (.slice bo cs.length cc)).cell? ⟨w.heap.size + 1, 2, none⟩ = some (.slice bo cs.length cc) :=
    World.cell?_setCell_same _ _ _ ((World.cell?_setCell_other _ _ _ _ (by simp)).trans ((World.cell?_setCell_other _ _ _ _ (by simp)).trans ((q3 2).trans q2)))
  refine bodyPost_ret (v := .agg #[.string s, .int .i64 d, .slice bo cs.length cc]) (by simp [results, Try.results21, go_sem, y0, y1, y2]) rfl ⟨⟨_, rfl, ?_⟩, ?_⟩
  · exact ((((HU.out.setBelow (by first | omega | (simp; omega) | (simp; done) | (simp at *; omega)) _).setBelow (by first | omega | (simp; omega) | (simp; done) | (simp at *; omega)) _).setBelow (by first | omega | (simp; omega) | (simp; done) | (simp at *; omega)) _).setBelow (by first | omega | (simp; omega) | (simp; done) | (simp at *; omega)) _).down (by first | omega | (simp; omega) | (simp; done) | (simp at *; omega))
  · (repeat (first | exact Below.refl _ _ | assumption | refine below_drewN ?_ _ | refine Below.drew ?_ | refine Below.alloc ?_ (by first | omega | (simp; omega) | (simp; done) | (simp at *; omega)) _ | refine Below.setCell ?_ (by first | omega | (simp; omega) | (simp; done) | (simp at *; omega)) _ | refine Below.trans ?_ (Below.mono (by assumption) (by first | omega | (simp; omega) | (simp; done) | (simp at *; omega)))))

theorem l_szFloat32S (v : Value) (cs : List Nat) (left : Int) (w : World) (hv : SL w v cs) (h0 : 0 ≤ left) (h1 : left ≤ 1048576) :
    Calls Try.prog 55 #[v, .int .i64 left] w fun e w' => e = .returned (.int .i64 (if (cs.length : Int) ≤ left then left - cs.length else -1)) ∧ Dr w w' := by
  obtain ⟨ao, c, rfl, hlen⟩ := hv.slice
  by_cases h : (cs.length : Int) ≤ left
  all_goals
    go_enter Try.func55, Try.ntmps55
    go_wp2_with fail
    go_ret
    refine ⟨ret_int ?_, Dr.refl _⟩
    first | rfl | (simp [h]; done) | (simp; omega)
def szV (s : ByteArray) (n : Nat) (left : Int) : Int := if (s.size : Int) + n ≤ left then left - s.size - n else -1
theorem l_szSaved (s : ByteArray) (hs : s.size ≤ 9223372036854775807) (d : Int) (v : Value) (cs : List Nat) (left : Int) (w : World) (hv : SL w v cs) (h0 : 0 ≤ left) (h1 : left ≤ 1048576) :
    Calls Try.prog 19 #[.agg #[.string s, .int .i64 d, v], .int .i64 left] w fun e w' => e = .returned (.int .i64 (szV s cs.length left)) ∧ Below w.heap.size w w' := by
  obtain ⟨ao, c, rfl, hlen⟩ := hv.slice
  have HV := Lib.hid hv
  clear hv
  by_cases hb : (s.size : Int) ≤ left
  · by_cases hn : (cs.length : Int) ≤ left - s.size
    all_goals
      go_enter Try.func19, Try.ntmps19
      go_wp2_with (go_at_call 55; refine (l_szFloat32S _ cs _ _ (SL.keep HV.out (by (repeat (first | exact Below.refl _ _ | assumption | refine below_drewN ?_ _ | refine Below.drew ?_ | refine Below.alloc ?_ (by first | omega | (simp; omega) | (simp; done) | (simp at *; omega)) _ | refine Below.setCell ?_ (by first | omega | (simp; omega) | (simp; done) | (simp at *; omega)) _ | refine Below.trans ?_ (Below.mono (by assumption) (by first | omega | (simp; omega) | (simp; done) | (simp at *; omega))))))) (by omega) (by omega)).mono ?_; rintro z w1 ⟨rfl, n1, rfl⟩; first | rw [if_pos hn] | rw [if_neg hn])
      go_ret
      refine ⟨ret_int ?_, by (repeat (first | exact Below.refl _ _ | assumption | refine below_drewN ?_ _ | refine Below.drew ?_ | refine Below.alloc ?_ (by first | omega | (simp; omega) | (simp; done) | (simp at *; omega)) _ | refine Below.setCell ?_ (by first | omega | (simp; omega) | (simp; done) | (simp at *; omega)) _ | refine Below.trans ?_ (Below.mono (by assumption) (by first | omega | (simp; omega) | (simp; done) | (simp at *; omega)))))⟩
    · unfold szV; rw [if_pos (by omega)]
    · unfold szV; rw [if_neg (by omega)]
  · go_enter Try.func19, Try.ntmps19
    go_wp2_with fail
    go_ret
    refine ⟨ret_int ?_, by (repeat (first | exact Below.refl _ _ | assumption | refine below_drewN ?_ _ | refine Below.drew ?_ | refine Below.alloc ?_ (by first | omega | (simp; omega) | (simp; done) | (simp at *; omega)) _ | refine Below.setCell ?_ (by first | omega | (simp; omega) | (simp; done) | (simp at *; omega)) _ | refine Below.trans ?_ (Below.mono (by assumption) (by first | omega | (simp; omega) | (simp; done) | (simp at *; omega)))))⟩
    unfold szV; rw [if_neg (by omega)]

theorem l_eqSaved (s : ByteArray) (d : Int) (u v : Value) (cs : List Nat) (w : World) (hu : SL w u cs) (hv : SL w v cs) :
    Calls Try.prog 23 #[.agg #[.string s, .int .i64 d, u], .agg #[.string s, .int .i64 d, v]] w fun e w' => e = .returned (.bool true) ∧ Below w.heap.size w w' := by
  have HU := Lib.hid hu
  have HV := Lib.hid hv
  obtain ⟨ao, c, rfl, hlen⟩ := hu.slice
  obtain ⟨bo, c2, rfl, hlen2⟩ := hv.slice
  clear hu hv
  go_enter Try.func23, Try.ntmps23
  go_wp2_with (go_at_call 62; refine (l_eqFloat32S _ _ cs _ (SL.keep HU.out (by (repeat (first | exact Below.refl _ _ | assumption | refine below_drewN ?_ _ | refine Below.drew ?_ | refine Below.alloc ?_ (by first | omega | (simp; omega) | (simp; done) | (simp at *; omega)) _ | refine Below.setCell ?_ (by first | omega | (simp; omega) | (simp; done) | (simp at *; omega)) _ | refine Below.trans ?_ (Below.mono (by assumption) (by first | omega | (simp; omega) | (simp; done) | (simp at *; omega))))))) (SL.keep HV.out (by (repeat (first | exact Below.refl _ _ | assumption | refine below_drewN ?_ _ | refine Below.drew ?_ | refine Below.alloc ?_ (by first | omega | (simp; omega) | (simp; done) | (simp at *; omega)) _ | refine Below.setCell ?_ (by first | omega | (simp; omega) | (simp; done) | (simp at *; omega)) _ | refine Below.trans ?_ (Below.mono (by assumption) (by first | omega | (simp; omega) | (simp; done) | (simp at *; omega)))))))).mono ?_; rintro z w1 ⟨rfl, n1, rfl⟩)
  go_ret
  exact ⟨rfl, by (repeat (first | exact Below.refl _ _ | assumption | refine below_drewN ?_ _ | refine Below.drew ?_ | refine Below.alloc ?_ (by first | omega | (simp; omega) | (simp; done) | (simp at *; omega)) _ | refine Below.setCell ?_ (by first | omega | (simp; omega) | (simp; done) | (simp at *; omega)) _ | refine Below.trans ?_ (Below.mono (by assumption) (by first | omega | (simp; omega) | (simp; done) | (simp at *; omega)))))⟩

end Go.Proofs.Ytfckfdaloamkdaa
