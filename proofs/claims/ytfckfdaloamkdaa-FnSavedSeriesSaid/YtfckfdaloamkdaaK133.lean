/- Contracts: LoadSaved, by the program. Written by wip/mk133.py. -/
import Derived.Test.YtfckfdaloamkdaaK132
import Derived.Test.YtfckfdaloamkdaaK15
namespace Go.Proofs.Ytfckfdaloamkdaa
set_option linter.unusedSimpArgs false
set_option linter.unusedVariables false
set_option maxRecDepth 100000
set_option maxHeartbeats 4000000
open Go.RowKit
attribute [local go_sem] run_store_float run_store_complex alloc_drewN setCell_drewN
/-- What LoadSaved gives. -/
def loQ (T : ByteArray) : Option (ByteArray × Int × List Nat) := match lsQ T.data.toList with
  | some (s, d, ns, m) => if m = T.size then some (s, d, ns) else none
  | none => none
theorem GO.kept_last {α : Type} {inj : α → Value} {T lo p : Nat} {w W : World} {v : Value} {xs : List α} (h : GO inj T lo w v xs) (hg : w.grownBy W (some p)) (hp : ∀ g, v.ownBlock = some g → g < p) : GO inj T lo W v xs := by
  refine GO.kept h hg ?_
  by_cases hb0 : v.ownBlock = none
  · exact .inl hb0
  · refine .inr fun e => ?_
    have := hp _ e
    omega
theorem lsQ_pos {l : List UInt8} {s : ByteArray} {d : Int} {ns : List Nat} {m : Nat} (h : lsQ l = some (s, d, ns, m)) : 0 < m := by
  unfold lsQ at h
  cases hp : ldP l with
  | none => rw [hp] at h; cases h
  | some q =>
    obtain ⟨nm, d', ns', e⟩ := q
    rw [hp] at h
    have h2 : (if savedOk (tx nm) ((d' : Int) - 1000000) (ns'.map (cn .f32)) = true ∧ storeB (tx nm) ((d' : Int) - 1000000) (ns'.map (cn .f32)) = l.take e then some (tx nm, (d' : Int) - 1000000, ns', e) else none) = some (s, d, ns, m) := h
    split at h2
    · injection h2 with h2
      injection h2 with _ h2
      injection h2 with _ h2
      injection h2 with _ h2
      subst h2
      unfold ldP at hp
      split at hp
      · cases hp
      · split at hp
        · cases hp
        · split at hp
          · cases hp
          · injection hp with hp
            injection hp with _ hp
            injection hp with _ hp
            injection hp with _ hp
            omega
    · cases h2


theorem i_LoadSaved (T : ByteArray) (hT : T.size ≤ 100000000) (w : World) :
    Calls Try.prog 27 #[.string T] w fun e w' => (∃ s d u, e = .returned (.tuple #[.agg #[.string s, .int .i64 d, u], .bool (loQ T).isSome]) ∧ ∃ ns, (loQ T).getD (⟨#[]⟩, 0, []) = (s, d, ns) ∧ GO (Value.float .f32) 54 w.heap.size w' u ns ∧ (∀ i ∈ ns, i < 4294967296)) ∧ Below w.heap.size w w' := by
  have HQ := Lib.hid (show loQ T = match lsQ T.data.toList with | some (s, d, ns, m) => if m = T.size then some (s, d, ns) else none | none => none from rfl)
  have HC := Lib.hid (fun w => i_taken T hT w)
  have HPOS := Lib.hid (fun s d ns m (h : lsQ T.data.toList = some (s, d, ns, m)) => lsQ_pos h)
  simp only [takenQ_eq] at HC
  generalize lsQ T.data.toList = q at *
  generalize loQ T = Q at *
  have HR := Lib.hid (BK.new w [.string ⟨#[]⟩, .int .i64 0, .slice none 0 0] 34)
  have HW0 := Lib.hid (show Below w.heap.size w (w.alloc (.cells [.string ⟨#[]⟩, .int .i64 0, .slice none 0 0].toArray 34)) from (Below.refl _ _).alloc (Nat.le_refl _) _)
  have HZ0 := Lib.hid (show w.heap.size + 1 ≤ (w.alloc (.cells [.string ⟨#[]⟩, .int .i64 0, .slice none 0 0].toArray 34)).heap.size by simp)
  go_enter Try.func27, Try.ntmps27
  go_wp2_with fail
  refine (HC.out _).mono ?_; rintro e w1 ⟨⟨s, d, u, m, rfl, ns, hq, ho, hlt⟩, hb⟩
  obtain ⟨ao, c, rfl, hc⟩ := ho.slice
  have HR1 := Lib.hid (HR.out.keep hb)
  have HW1 := Lib.hid (HW0.out.trans (hb.mono HW0.out.size))
  have HO := Lib.hid ho
  have HLT := Lib.hid hlt
  have hr1 := HR1.out.lt
  clear hb ho hlt HR HW0
  cases q with
  | none =>
    have hm : m = 0 := by injection hq with _ h; injection h with _ h; injection h with _ h; exact h.symm
    have HF := Lib.hid (show Q = none from HQ.out)
    subst hm
    clear hq HQ HPOS
    go_wp2_with (first | (refine wpList_storeAgg (us := [.string s, .int .i64 d, .slice ao ns.length c]) (storeSd _ _ _ _ _ _ _) rfl rfl (by simp [Value.oneCell']) (BK.new _ [.string ⟨#[]⟩, .int .i64 0, .slice none 0 0] _) (by simp) ?_; intro w2 hE hO hL hZ hG; have HR2 := Lib.hid (hO _ _ (HR1.out.alloc _) (by omega)); have HW2 := Lib.hid (hL _ _ (HW1.out.alloc HW1.out.size _) (by omega)); have HO2 := Lib.hid (GO.kept_last (GO.alloc HO.out _) hG (fun g e => (GO.block HO.out g e).2)); simp [setsAt] at hE; have HS2 := Lib.hid hE; have hs0 := hE.at (i := 0) rfl; have hs1 := hE.at (i := 1) rfl; have hs2 := hE.at (i := 2) rfl; (try simp only [World.size_alloc] at hZ); have hr2 := HR2.out.lt; clear hE hO hL hG HR1 HW1 HO) | (refine wpList_storeAgg (us := [.string ⟨#[]⟩, .int .i64 0, .slice none 0 0]) (storeSd _ _ _ _ _ _ _) rfl rfl (by simp [Value.oneCell']) HR2.out (by simp) ?_; intro W hE hO hL hZ hG; have HWz := Lib.hid (hL _ _ HW2.out (by omega)); simp [setsAt] at hE; have hce := hE.cells; clear hO hL hG))
    (try simp only [Exit.inBlock, Exit.then])
    exact bodyPost_ret (by simp [results, Try.results27, go_sem, hce]; try rfl) rfl ⟨⟨⟨#[]⟩, 0, .slice none 0 0, by rw [HF.out]; rfl, [], by rw [HF.out]; rfl, GO.nil _ _ _, by simp⟩, HWz.out⟩
  | some q' =>
    obtain ⟨s', d', ns', m'⟩ := q'
    have hpos := HPOS.out _ _ _ _ rfl
    obtain ⟨rfl, rfl, rfl, rfl⟩ : s' = s ∧ d' = d ∧ ns' = ns ∧ m' = m := by
      have h : (s', d', ns', m') = (s, d, ns, m) := hq
      injection h with e1 h; injection h with e2 h; injection h with e3 e4
      exact ⟨e1, e2, e3, e4⟩
    have hm0 : ¬ (m' : Int) = 0 := by omega
    have hmb : ((m' : Int) == 0) = false := by rw [beq_eq_false_iff_ne]; omega
    clear hq HPOS
    by_cases hT2 : m' = T.size
    · have HF := Lib.hid (show Q = some (s', d', ns') from HQ.out.trans (if_pos hT2))
      subst hT2
      go_wp2_with (first | (refine wpList_storeAgg (us := [.string s', .int .i64 d', .slice ao ns'.length c]) (storeSd _ _ _ _ _ _ _) rfl rfl (by simp [Value.oneCell']) (BK.new _ [.string ⟨#[]⟩, .int .i64 0, .slice none 0 0] _) (by simp) ?_; intro w2 hE hO hL hZ hG; have HR2 := Lib.hid (hO _ _ (HR1.out.alloc _) (by omega)); have HW2 := Lib.hid (hL _ _ (HW1.out.alloc HW1.out.size _) (by omega)); have HO2 := Lib.hid (GO.kept_last (GO.alloc HO.out _) hG (fun g e => (GO.block HO.out g e).2)); simp [setsAt] at hE; have HS2 := Lib.hid hE; have hs0 := hE.at (i := 0) rfl; have hs1 := hE.at (i := 1) rfl; have hs2 := hE.at (i := 2) rfl; (try simp only [World.size_alloc] at hZ); have hr2 := HR2.out.lt; clear hE hO hL hG HR1 HW1 HO) | (refine wpList_storeAgg (us := [.string s', .int .i64 d', .slice ao ns'.length c]) (storeSd _ _ _ _ _ _ _) rfl rfl (by simp [Value.oneCell']) HR2.out (by simp) ?_; intro W hE hO hL hZ hG; have HWz := Lib.hid (hL _ _ HW2.out (by omega)); have HO3 := Lib.hid (GO.kept_offT HO2.out hG (by have := HZ0.out; omega)); simp [setsAt] at hE; have hce := hE.cells; clear hO hL hG))
      (try simp only [Exit.inBlock, Exit.then])
      exact bodyPost_ret (by simp [results, Try.results27, go_sem, hce]; try rfl) rfl ⟨⟨s', d', _, by rw [HF.out]; rfl, ns', by rw [HF.out]; rfl, GO.down HO3.out (by have := HZ0.out; omega), HLT.out⟩, HWz.out⟩
    · have HF := Lib.hid (show Q = none from HQ.out.trans (if_neg hT2))
      have hx : ¬ (m' : Int) = (T.size : Int) := by omega
      have hxb : ((m' : Int) != (T.size : Int)) = true := by simp only [bne_iff_ne, ne_eq]; omega
      go_wp2_with (first | (refine wpList_storeAgg (us := [.string s', .int .i64 d', .slice ao ns'.length c]) (storeSd _ _ _ _ _ _ _) rfl rfl (by simp [Value.oneCell']) (BK.new _ [.string ⟨#[]⟩, .int .i64 0, .slice none 0 0] _) (by simp) ?_; intro w2 hE hO hL hZ hG; have HR2 := Lib.hid (hO _ _ (HR1.out.alloc _) (by omega)); have HW2 := Lib.hid (hL _ _ (HW1.out.alloc HW1.out.size _) (by omega)); have HO2 := Lib.hid (GO.kept_last (GO.alloc HO.out _) hG (fun g e => (GO.block HO.out g e).2)); simp [setsAt] at hE; have HS2 := Lib.hid hE; have hs0 := hE.at (i := 0) rfl; have hs1 := hE.at (i := 1) rfl; have hs2 := hE.at (i := 2) rfl; (try simp only [World.size_alloc] at hZ); have hr2 := HR2.out.lt; clear hE hO hL hG HR1 HW1 HO) | (refine wpList_storeAgg (us := [.string ⟨#[]⟩, .int .i64 0, .slice none 0 0]) (storeSd _ _ _ _ _ _ _) rfl rfl (by simp [Value.oneCell']) HR2.out (by simp) ?_; intro W hE hO hL hZ hG; have HWz := Lib.hid (hL _ _ HW2.out (by omega)); simp [setsAt] at hE; have hce := hE.cells; clear hO hL hG))
      (try simp only [Exit.inBlock, Exit.then])
      exact bodyPost_ret (by simp [results, Try.results27, go_sem, hce]; try rfl) rfl ⟨⟨⟨#[]⟩, 0, .slice none 0 0, by rw [HF.out]; rfl, [], by rw [HF.out]; rfl, GO.nil _ _ _, by simp⟩, HWz.out⟩

end Go.Proofs.Ytfckfdaloamkdaa
