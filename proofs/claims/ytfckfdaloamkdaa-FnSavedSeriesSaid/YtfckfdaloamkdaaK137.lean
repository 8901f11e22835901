/- Contracts: marks of what is saved, by the laws. -/
import Derived.Test.YtfckfdaloamkdaaK133
import Derived.Test.YtfckfdaloamkdaaK15
import Derived.Test.YtfckfdaloamkdaaK9
namespace Go.Proofs.Ytfckfdaloamkdaa
set_option linter.unusedSimpArgs false
set_option linter.unusedVariables false
set_option maxRecDepth 100000
set_option maxHeartbeats 4000000
open Go.RowKit
theorem lsQ_ok {l : List UInt8} {s : ByteArray} {d : Int} {ns : List Nat} {m : Nat} (h : lsQ l = some (s, d, ns, m)) : savedOk s d (ns.map (cn .f32)) = true := by
  unfold lsQ at h
  cases hp : ldP l with
  | none => rw [hp] at h; cases h
  | some q =>
    obtain ⟨nm, d', ns', e⟩ := q
    rw [hp] at h
    have h2 : (if savedOk (tx nm) ((d' : Int) - 1000000) (ns'.map (cn .f32)) = true ∧ storeB (tx nm) ((d' : Int) - 1000000) (ns'.map (cn .f32)) = l.take e then some (tx nm, (d' : Int) - 1000000, ns', e) else none) = some (s, d, ns, m) := h
    split at h2
    · rename_i hh
      injection h2 with h2
      injection h2 with e1 h2
      injection h2 with e2 h2
      injection h2 with e3 h2
      rw [← e1, ← e2, ← e3]
      exact hh.1
    · cases h2
theorem loQ_len (T : ByteArray) : ((loQ T).getD (⟨#[]⟩, 0, [])).2.2.length < 1000000 ∧ (((loQ T).getD (⟨#[]⟩, 0, [])).1).size < 1000000 := by
  rw [loQ]
  cases h : lsQ T.data.toList with
  | none => exact ⟨(by decide : (0 : Nat) < 1000000), (by decide : (0 : Nat) < 1000000)⟩
  | some q =>
    obtain ⟨s, d, ns, m⟩ := q
    have hok := lsQ_ok h
    obtain ⟨f1, f2, f3, f4⟩ := savedOk_facts hok
    rw [List.length_map] at f4
    simp only
    split
    · exact ⟨by show ns.length < _; omega, by show s.size < _; omega⟩
    · exact ⟨(by decide : (0 : Nat) < 1000000), (by decide : (0 : Nat) < 1000000)⟩
theorem GO.ow {T lo : Nat} {w : World} {u : Value} {ns : List Nat} (ho : GO (Value.float .f32) T lo w u ns) (hlt : ∀ i ∈ ns, i < 4294967296) : OW T lo w u (ns.map (cn .f32)) := ⟨ns, ho, rfl, hlt⟩

theorem l_markSaved (lo hi : Nat) (s : ByteArray) (d : Int) (v : Value) (cs : List Nat) (k : Int) (w : World) (hv : FW 54 lo hi w v cs) (h0 : 0 ≤ k) (h1 : k ≤ 1000000000000) (hn : cs.length < 1099511627776) :
    Calls Try.prog 28 #[.agg #[.string s, .int .i64 d, v], .int .i64 k] w fun e w' => e = .returned (.int .i64 (k + cs.length)) ∧ FW 54 lo hi w' v (markL k cs.length) ∧ Wi lo hi w w' := by
  obtain ⟨ao, c, rfl, hc⟩ := hv.sl.slice
  have HBA := Lib.hid (show Below w.heap.size w (w.alloc (.cells #[.string s, .int .i64 d, .slice ao cs.length c] 34)) from (Below.refl _ _).alloc (Nat.le_refl _) _)
  have HV := Lib.hid (hv.keep (Wi.of_below HBA.out) (by omega))
  clear hv
  go_enter Try.func28, Try.ntmps28
  go_wp2_with fail
  refine (l_markFW lo hi _ cs k _ HV.out h0 h1 hn).mono ?_; rintro e w1 ⟨rfl, hf, hw⟩
  have HF := Lib.hid hf
  have HW := Lib.hid ((Wi.any HBA.out).trans hw)
  clear hf hw
  go_wp2_with fail
  go_ret
  exact ⟨rfl, HF.out, HW.out⟩

theorem l_heldSaved (s : ByteArray) (d : Int) (v : Value) (n : Nat) (k : Int) (w : World) (hv : SL w v (markL k n)) (h0 : 0 ≤ k) (h1 : k ≤ 1000000000000) (hn : n < 1099511627776) :
    Calls Try.prog 29 #[.agg #[.string s, .int .i64 d, v], .int .i64 k] w fun e w' => e = .returned (.int .i64 (k + n)) ∧ Below w.heap.size w w' := by
  obtain ⟨ao, c, rfl, hc⟩ := hv.slice
  rw [markL_length]
  have HBA := Lib.hid (show Below w.heap.size w (w.alloc (.cells #[.string s, .int .i64 d, .slice ao n c] 34)) from (Below.refl _ _).alloc (Nat.le_refl _) _)
  have HV := Lib.hid (hv.keep HBA.out)
  rw [markL_length] at HV
  have hge : ¬ (k + (n : Int)) < 0 := by omega
  clear hv
  go_enter Try.func29, Try.ntmps29
  go_wp2_with fail
  refine (l_heldFloat32S _ k n _ HV.out h0 h1 hn).mono ?_; rintro e w1 ⟨rfl, hd⟩
  have hb := HBA.out.trans ((hd.below _).mono HBA.out.size)
  go_wp2_with fail
  go_ret
  exact ⟨rfl, hb⟩

end Go.Proofs.Ytfckfdaloamkdaa
