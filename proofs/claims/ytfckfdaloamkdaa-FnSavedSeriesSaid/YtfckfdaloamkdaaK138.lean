/- Contracts: RecoverAll, by both. Written by wip/mk138.py. -/
import Derived.Test.YtfckfdaloamkdaaK136
import Derived.Test.YtfckfdaloamkdaaK137
import Derived.Test.YtfckfdaloamkdaaRv
import Derived.Test.YtfckfdaloamkdaaK70
import Derived.Laws.AppendOwn
namespace Go.Proofs.Ytfckfdaloamkdaa
set_option linter.unusedSimpArgs false
set_option linter.unusedVariables false
set_option maxRecDepth 100000
set_option maxHeartbeats 4000000
open Go.RowKit
attribute [local go_sem] run_store_float run_store_complex alloc_drewN setCell_drewN
/-- The most ones with whose bytes bytes begin (of n at most), and how many bytes these are. -/
def rcA : List UInt8 → Nat → List Sd × Nat
  | _, 0 => ([], 0)
  | l, n + 1 => match lsQ l with
    | some (s, d, ns, m) => ((s, d, ns.map (cn .f32)) :: (rcA (l.drop m) n).1, m + (rcA (l.drop m) n).2)
    | none => ([], 0)
theorem rcA_no {l : List UInt8} (h : lsQ l = none) : ∀ n, rcA l n = ([], 0)
  | 0 => rfl
  | n + 1 => by rw [rcA, h]
theorem lsQ_end {l : List UInt8} {s : ByteArray} {d : Int} {ns : List Nat} {m : Nat} (h : lsQ l = some (s, d, ns, m)) : m ≤ l.length := by
  unfold lsQ at h
  cases hp : ldP l with
  | none => rw [hp] at h; cases h
  | some q =>
    obtain ⟨nm, d', ns', e⟩ := q
    rw [hp] at h
    have h2 : (if savedOk (tx nm) ((d' : Int) - 1000000) (ns'.map (cn .f32)) = true ∧ storeB (tx nm) ((d' : Int) - 1000000) (ns'.map (cn .f32)) = l.take e then some (tx nm, (d' : Int) - 1000000, ns', e) else none) = some (s, d, ns, m) := h
    split at h2
    · injection h2 with h2
      injection h2 with _ h2
      injection h2 with _ h2
      injection h2 with _ h2
      subst h2
      unfold ldP at hp
      split at hp
      · cases hp
      · split at hp
        · cases hp
        · split at hp
          · cases hp
          · injection hp with hp
            injection hp with _ hp
            injection hp with _ hp
            injection hp with _ hp
            omega
    · cases h2
theorem rcA_step {l : List UInt8} {a n : Nat} {L : List Sd} {Q : List Sd × Nat} {s : ByteArray} {d : Int} {ns : List Nat} {m : Nat} (hl : L.length < n) (hq : lsQ (l.drop a) = some (s, d, ns, m)) (h : Q = (L ++ (rcA (l.drop a) (n - L.length)).1, a + (rcA (l.drop a) (n - L.length)).2)) :
    Q = ((L ++ [(s, d, ns.map (cn .f32))]) ++ (rcA (l.drop (a + m)) (n - (L ++ [(s, d, ns.map (cn .f32))]).length)).1, (a + m) + (rcA (l.drop (a + m)) (n - (L ++ [(s, d, ns.map (cn .f32))]).length)).2) := by
  have e : n - L.length = (n - (L ++ [(s, d, ns.map (cn .f32))]).length) + 1 := by rw [List.length_append, List.length_singleton]; omega
  rw [e, rcA, hq] at h
  simp only [List.drop_drop] at h
  rw [h]
  simp [Nat.add_assoc]
def vlen : Value → Nat
  | .slice _ n _ => n
  | _ => 0
theorem RV.push {T1 T2 lo hi k : Nat} {w : World} {v : Value} {L : List Sd} {p : Sd × Value} (hne : T1 ≠ T2) (hw2 : RV T1 T2 lo hi w v L) (hhi : hi ≤ k) (hp : OW T2 k w p.2 p.1.2.2) (hs : p.1.1.size ≤ 9223372036854775807) (hlo : lo ≤ k) :
    ∃ P : List (Sd × Value), P.map Prod.fst = L ∧ w.ownsRow lo T1 3 v P.length (rvc P) ∧ ∀ (v' : Value) (W : World), W.ownsRow lo T1 3 v' (P.length + 1) (rvc P ++ [.string p.1.1, .int .i64 p.1.2.1, p.2]) → w.grownBy W v.ownBlock → hi ≤ W.heap.size → RV T1 T2 lo W.heap.size W v' (L ++ [p.1]) := by
  obtain ⟨P, h1, h2, h3, h4, h5⟩ := hw2
  refine ⟨P, h1, h2, fun v' W ho hg hk => RV.pushed h1 (fun q hq => ?_) h4 ?_ (fun q hq => ?_) ho (fun g e => (World.ownsRow.lt ho g e).2)⟩
  · refine ((h3 q hq).mono hk).kept hg ?_
    obtain ⟨xs, ho1, -⟩ := (h3 q hq).1
    exact own_apart ho1 h2 (Ne.symm hne)
  · obtain ⟨xs, ho1, -⟩ := id hp
    exact ⟨(hp.down hlo).kept hg (own_apart ho1 h2 (Ne.symm hne)), fun g e => Nat.lt_of_lt_of_le (hp.block g e).2 hg.size, hs⟩
  · cases hb : q.2.ownBlock with
    | none => exact .inl hb
    | some g =>
      refine .inr fun e => ?_
      rw [hb] at e
      have h7 := (h3 q hq).2.1 g hb
      have h8 := (hp.block g e.symm).1
      omega
theorem wpList_rvpush {P : Program} {ops : Array Oper} {rest : List Oper} {o : Oper} {a : Act} {w : World} {Q : Exit → Act → World → Prop} (hgd : o.guard = none) (s x : Operand) (t : TypeId)
    (ho : o.op = .call { callee := .builtin .append, args := #[s, x], argTypes := #[t, t] }) {T1 T2 lo hi k : Nat} (i : TypeInfo) (z : Value) (ht : P.underlying t = some (.slice T1)) (hi0 : P.info? T1 = some i) (hz : i.zero = some z) (hsize : i.size = 3) (hby : i.bytes = 48) (hzs : z.cells.size = 3) (hne : T1 ≠ T2)
    (v : Value) (L : List Sd) (hs : a.eval s = v) (hv : RV T1 T2 lo hi w v L) (sn : ByteArray) (d : Int) (cs : List Nat) (u : Value) (hu : OW T2 k w u cs) (hu1 : u.oneCell' = true) (hsn : sn.size ≤ 9223372036854775807) (hhi : hi ≤ k) (hlo : lo ≤ k) (hkw : k ≤ w.heap.size)
    (b : Nat) (c : Nat) (hx : a.eval x = .slice (some ⟨b, 0, none⟩) 1 c) (h0 : w.cell? ⟨b, 0, none⟩ = some (.string sn)) (h1 : w.cell? ⟨b, 1, none⟩ = some (.int .i64 d)) (h2 : w.cell? ⟨b, 2, none⟩ = some u) (hL : L.length ≤ 1000000)
    (h : ∀ v' w', RV T1 T2 lo w'.heap.size w' v' (L ++ [(sn, d, cs)]) → w.grownBy w' v.ownBlock → (∀ g, v.ownBlock = some g → lo ≤ g) → wpList P ops Q rest (a.put o.dst v') w') : wpList P ops Q (o :: rest) a w := by
  obtain ⟨PP, hP1, hP2, hP3⟩ := RV.push (p := ((sn, d, cs), u)) hne hv hhi hu hsn hlo
  have hPl : PP.length = L.length := by rw [← hP1, List.length_map]
  refine wpList_append_own w hgd s x t ho lo T1 i z 3 48 ht hi0 hz hsize hby hzs (by decide) v PP.length (rvc PP) hs hP2 ⟨b, 0, none⟩ 1 c [.string sn, .int .i64 d, u] hx rfl ?_ ?_ (by simp [maxLen]; omega) (by omega) (by omega) ?_
  · intro j u' hu'
    match j with
    | 0 => (simp at hu'; subst hu'; simpa [Addr.add] using h0)
    | 1 => (simp at hu'; subst hu'; simpa [Addr.add] using h1)
    | 2 => (simp at hu'; subst hu'; simpa [Addr.add] using h2)
    | (m + 3) => simp at hu'
  · intro u' hu'
    simp at hu'
    rcases hu' with rfl | rfl | rfl
    · rfl
    · rfl
    · exact hu1
  · intro v' w' hown hg _
    exact h v' w' (hP3 v' w' hown hg (by have := hg.size; omega)) hg (fun g e => (World.ownsRow.lt hP2 g e).1)


theorem i_RecoverAll (T : ByteArray) (hT : T.size ≤ 100000000) (w : World) :
    Calls Try.prog 31 #[.string T] w fun e w' => (∃ v, e = .returned (.tuple #[v, .int .i64 (((rcA T.data.toList 8).2 : Nat) : Int), .bool true]) ∧ RV 34 54 w.heap.size w'.heap.size w' v (rcA T.data.toList 8).1) ∧ Below w.heap.size w w' := by
  have hll : T.data.toList.length = T.size := by simp
  have HQ := Lib.hid (show rcA T.data.toList 8 = (([] : List Sd) ++ (rcA (T.data.toList.drop 0) (8 - ([] : List Sd).length)).1, 0 + (rcA (T.data.toList.drop 0) (8 - ([] : List Sd).length)).2) by simp)
  generalize rcA T.data.toList 8 = Q at *
  obtain ⟨l, hl⟩ : ∃ l, l = T.data.toList := ⟨_, rfl⟩
  rw [← hl] at hll HQ
  have HC := Lib.hid (show ∀ a, a ≤ T.size → ∀ w, Calls Try.prog 64 #[.string (T.extract a T.size)] w fun e w' => (∃ s d u m, e = .returned (.tuple #[.agg #[.string s, .int .i64 d, u], .int .i64 ((m : Nat) : Int)]) ∧ ∃ ns, (lsQ (l.drop a)).getD (⟨#[]⟩, 0, [], 0) = (s, d, ns, m) ∧ GO (Value.float .f32) 54 w.heap.size w' u ns ∧ (∀ i ∈ ns, i < 4294967296)) ∧ Below w.heap.size w w' from fun a ha w => by
    have h := i_taken (T.extract a T.size) (by rw [tx_piece, tx_size]; simp; omega) w
    have e : (T.extract a T.size).data.toList = l.drop a := by rw [tx_piece, tx_data, ← hl, List.take_of_length_le (by rw [List.length_drop]; omega)]
    rw [e] at h
    rw [takenQ_eq] at h
    exact h)
  clear hl
  have HV0 := Lib.hid (RV.empty (T1 := 34) (T2 := 54) (lo := w.heap.size) (hi := w.heap.size + 1) (w := w) rfl (Nat.le_refl _) (Nat.lt_succ_self _))
  have HB0 := Lib.hid (show Below w.heap.size w (w.alloc (.cells #[] 34)) from (Below.refl _ _).alloc (Nat.le_refl _) _)
  obtain ⟨i0, hi0, hz0, hz1, hz2⟩ := info_parts savedInfo
  have HI0 := Lib.hid hi0; have HZ0 := Lib.hid hz0; have HZ1 := Lib.hid hz1; have HZ2 := Lib.hid hz2
  clear hi0 hz0 hz1 hz2
  go_enter Try.func31, Try.ntmps31
  go_wp2_with fail
  go_loopw [5, 6] (fun v a wr => ∃ (L : List Sd) (at_ : Nat), L.length ≤ 8 ∧ at_ ≤ T.size ∧ a = .int .i64 (at_ : Int) ∧ Hid (Q = (L ++ (rcA (l.drop at_) (8 - L.length)).1, at_ + (rcA (l.drop at_) (8 - L.length)).2)) ∧ Hid (RV 34 54 w.heap.size wr.heap.size wr v L) ∧ Hid (Below w.heap.size w wr) ∧ w.heap.size < wr.heap.size) (fun v _ _ => 8 - vlen v)
  case atStart => exact ⟨[], 0, by simp, Nat.zero_le _, rfl, HQ, Lib.hid (HV0.out.mono (by simp)), HB0, by simp⟩
  case round =>
    clear HV0 HB0 HQ
    obtain ⟨L, at_, hL, ha, rfl, HQ, HV, HB, hsz⟩ := hrel
    obtain ⟨ao, c, rfl, hc1, hc2⟩ := HV.out.slice
    by_cases h8 : L.length < 8
    · have j0 : (L.length : Int) < 8 := by omega
      have j1 : (0 : Int) ≤ (at_ : Int) := by omega
      have j2 : (at_ : Int) ≤ (T.size : Int) := by omega
      have HC1 := Lib.hid (HC.out at_ ha)
      cases hq : lsQ (l.drop at_) with
      | none =>
        have HF := Lib.hid (show Q = (L, at_) by rw [HQ.out, rcA_no hq]; simp)
        rw [hq] at HC1
        clear HQ HC hq
        go_wp2_with fail
        refine (HC1.out _).mono ?_; rintro z w1 ⟨⟨s, d, u, m, rfl, ns, hq, ho, hlt⟩, hb⟩
        obtain ⟨ao1, c1, rfl, hc3⟩ := ho.slice
        obtain ⟨rfl, rfl, rfl, rfl⟩ : (⟨#[]⟩ : ByteArray) = s ∧ (0 : Int) = d ∧ ([] : List Nat) = ns ∧ 0 = m := by
          have h : ((⟨#[]⟩ : ByteArray), (0 : Int), ([] : List Nat), 0) = (s, d, ns, m) := hq
          injection h with e1 h; injection h with e2 h; injection h with e3 e4
          exact ⟨e1, e2, e3, e4⟩
        have HV1 := Lib.hid (HV.out.keep hb)
        have HB1 := Lib.hid (HB.out.trans (hb.mono (Nat.le_of_lt hsz)))
        have hz1 := hb.size
        clear hb ho hlt hq HV HB HC1
        go_wp2_with (first | (refine wpList_storeAgg (us := [.string ⟨#[]⟩, .int .i64 0, .slice ao1 0 c1]) (storeSd _ _ _ _ _ _ _) rfl rfl (by simp [Value.oneCell']) (BK.new _ [.string ⟨#[]⟩, .int .i64 0, .slice none 0 0] _) (by simp) ?_; intro w2 hE hO hL2 hZ hG; have HV2 := Lib.hid (HV1.out.keep (hL2 _ _ ((Below.refl _ _).alloc (Nat.le_refl _) _) (Nat.le_refl _))); have HB2 := Lib.hid (hL2 _ _ (HB1.out.alloc HB1.out.size _) (by omega)); (try simp only [World.size_alloc] at hZ); clear hE hO hL2 hG HV1 HB1))
        go_ret3
        have h7 := HF.out
        subst h7
        exact ⟨⟨_, rfl, HV2.out.mono (by omega)⟩, HB2.out⟩
      | some q' =>
        obtain ⟨s', d', ns', m'⟩ := q'
        have HQ2 := Lib.hid (rcA_step h8 hq HQ.out)
        have hpos := lsQ_pos hq
        have hend := lsQ_end hq
        have hok := lsQ_ok hq
        rw [List.length_drop] at hend
        rw [hq] at HC1
        clear HQ HC hq
        have HSZ := Lib.hid (show s'.size ≤ 8 from (savedOk_facts hok).1)
        clear hok
        go_wp2_with fail
        refine (HC1.out _).mono ?_; rintro z w1 ⟨⟨s, d, u, m, rfl, ns, hq, ho, hlt⟩, hb⟩
        obtain ⟨ao1, c1, rfl, hc3⟩ := ho.slice
        obtain ⟨rfl, rfl, rfl, rfl⟩ : s' = s ∧ d' = d ∧ ns' = ns ∧ m' = m := by
          have h : (s', d', ns', m') = (s, d, ns, m) := hq
          injection h with e1 h; injection h with e2 h; injection h with e3 e4
          exact ⟨e1, e2, e3, e4⟩
        have HV1 := Lib.hid (HV.out.keep hb)
        have HB1 := Lib.hid (HB.out.trans (hb.mono (Nat.le_of_lt hsz)))
        have HO1 := Lib.hid (GO.ow ho hlt)
        have hz1 := hb.size
        have hm0 : ¬ (m' : Int) = 0 := by omega
        have hmb : ((m' : Int) == 0) = false := by rw [beq_eq_false_iff_ne]; omega
        clear hb ho hlt hq HV HB HC1
        have j3 : IntKind.i64.wrap ((at_ : Int) + (m' : Int)) = (at_ : Int) + (m' : Int) := by rw [IntKind.wrap_i64]; omega
        have HCL := Lib.hid (show L.length ≤ 8 by omega)
        go_wp2_with (first
          | (refine wpList_storeAgg (us := [.string s', .int .i64 d', .slice ao1 ns'.length c1]) (storeSd _ _ _ _ _ _ _) rfl rfl (by simp [Value.oneCell']) (BK.new _ [.string ⟨#[]⟩, .int .i64 0, .slice none 0 0] _) (by simp) ?_; intro w2 hE hO hL2 hZ hG; have hb2 := hL2 _ _ ((Below.refl w1.heap.size w1).alloc (Nat.le_refl _) _) (Nat.le_refl _); have HV2 := Lib.hid (HV1.out.keep hb2); have HO2 := Lib.hid (HO1.out.keep hb2); have HB2 := Lib.hid (HB1.out.trans (hb2.mono HB1.out.size)); (try simp only [World.size_alloc] at hZ); simp [setsAt] at hE; have HE2 := Lib.hid hE; have hs0 := hE.at (i := 0) rfl; have hs1 := hE.at (i := 1) rfl; have hs2 := hE.at (i := 2) rfl; clear hE hO hL2 hG HV1 HB1 HO1 hb2)
          | (at_builtin; clear hs0 hs1 hs2; refine wpList_rvpush rfl _ _ _ rfl (T2 := 54) (k := wr.heap.size) i0 _ Try.underlying25 HI0.out HZ0.out HZ1.out HZ2.out rfl (by decide) _ L rfl (HV2.out.alloc (.cells #[.string s', .int .i64 d', .slice ao1 ns'.length c1] 34)) s' d' (ns'.map (cn .f32)) (.slice ao1 ns'.length c1) (HO2.out.alloc _) rfl (by have := HSZ.out; omega) (Nat.le_refl _) (Nat.le_of_lt hsz) (by simp; omega) w2.heap.size 1 rfl (by simp) (by simp) (by simp) (by have := HCL.out; omega) ?_
             intro v2 w3 hV hg hlo; have hz3 := hg.size; (try simp only [World.size_alloc] at hz3); have HV3 := Lib.hid hV; have HB3 := Lib.hid (show Below w.heap.size w w3 from (HB2.out.alloc HB2.out.size _).grown hg (by simp; omega) hlo); obtain ⟨ao3, c3, rfl, hc4, hc5⟩ := HV3.out.slice; clear hV hg hlo HV2 HB2))
        have hl1 : (L ++ [(s', d', ns'.map (cn .f32))]).length = L.length + 1 := by simp
        refine ⟨⟨_, at_ + m', by omega, by omega, congrArg (Value.int .i64) (by omega), HQ2, by rw [← hl1]; exact HV3, HB3, by omega⟩, by show 8 - (L.length + 1) < 8 - L.length; omega⟩
    · have h80 : L.length = 8 := by omega
      have HF := Lib.hid (show Q = (L, at_) by rw [HQ.out, h80, Nat.sub_self]; simp [rcA])
      have j0 : ¬ (L.length : Int) < 8 := by omega
      clear HQ h8 h80
      go_wp2_with fail
      go_ret3
      have h7 := HF.out
      subst h7
      exact ⟨⟨_, rfl, HV.out⟩, HB.out⟩


theorem s_RecoverAll (T : ByteArray) (hT : T.size ≤ 100000000) (w : World) :
    Calls Try.prog 30 #[.string T] w fun e w' => (∃ v, e = .returned (.tuple #[v, .int .i64 (((rcA T.data.toList 8).2 : Nat) : Int), .bool true]) ∧ RV 34 54 w.heap.size w'.heap.size w' v (rcA T.data.toList 8).1) ∧ Below w.heap.size w w' := by
  have hll : T.data.toList.length = T.size := by simp
  have HQ := Lib.hid (show rcA T.data.toList 8 = (([] : List Sd) ++ (rcA (T.data.toList.drop 0) (8 - ([] : List Sd).length)).1, 0 + (rcA (T.data.toList.drop 0) (8 - ([] : List Sd).length)).2) by simp)
  generalize rcA T.data.toList 8 = Q at *
  obtain ⟨l, hl⟩ : ∃ l, l = T.data.toList := ⟨_, rfl⟩
  rw [← hl] at hll HQ
  have HC := Lib.hid (show ∀ a, a ≤ T.size → ∀ w, Calls Try.prog 63 #[.string (T.extract a T.size)] w fun e w' => (∃ s d u m, e = .returned (.tuple #[.agg #[.string s, .int .i64 d, u], .int .i64 ((m : Nat) : Int)]) ∧ ∃ ns, (lsQ (l.drop a)).getD (⟨#[]⟩, 0, [], 0) = (s, d, ns, m) ∧ GO (Value.float .f32) 54 w.heap.size w' u ns ∧ (∀ i ∈ ns, i < 4294967296)) ∧ Below w.heap.size w w' from fun a ha w => by
    have h := s_l07Begin (T.extract a T.size) (by rw [tx_piece, tx_size]; simp; omega) w
    have e : (T.extract a T.size).data.toList = l.drop a := by rw [tx_piece, tx_data, ← hl, List.take_of_length_le (by rw [List.length_drop]; omega)]
    rw [e] at h
    skip
    exact h)
  clear hl
  have HV0 := Lib.hid (RV.empty (T1 := 34) (T2 := 54) (lo := w.heap.size) (hi := w.heap.size + 1) (w := w) rfl (Nat.le_refl _) (Nat.lt_succ_self _))
  have HB0 := Lib.hid (show Below w.heap.size w (w.alloc (.cells #[] 34)) from (Below.refl _ _).alloc (Nat.le_refl _) _)
  obtain ⟨i0, hi0, hz0, hz1, hz2⟩ := info_parts savedInfo
  have HI0 := Lib.hid hi0; have HZ0 := Lib.hid hz0; have HZ1 := Lib.hid hz1; have HZ2 := Lib.hid hz2
  clear hi0 hz0 hz1 hz2
  go_enter Try.func30, Try.ntmps30
  go_wp2_with fail
  go_loopw [5, 6] (fun v a wr => ∃ (L : List Sd) (at_ : Nat), L.length ≤ 8 ∧ at_ ≤ T.size ∧ a = .int .i64 (at_ : Int) ∧ Hid (Q = (L ++ (rcA (l.drop at_) (8 - L.length)).1, at_ + (rcA (l.drop at_) (8 - L.length)).2)) ∧ Hid (RV 34 54 w.heap.size wr.heap.size wr v L) ∧ Hid (Below w.heap.size w wr) ∧ w.heap.size < wr.heap.size) (fun v _ _ => 8 - vlen v)
  case atStart => exact ⟨[], 0, by simp, Nat.zero_le _, rfl, HQ, Lib.hid (HV0.out.mono (by simp)), HB0, by simp⟩
  case round =>
    clear HV0 HB0 HQ
    obtain ⟨L, at_, hL, ha, rfl, HQ, HV, HB, hsz⟩ := hrel
    obtain ⟨ao, c, rfl, hc1, hc2⟩ := HV.out.slice
    by_cases h8 : L.length < 8
    · have j0 : (L.length : Int) < 8 := by omega
      have j1 : (0 : Int) ≤ (at_ : Int) := by omega
      have j2 : (at_ : Int) ≤ (T.size : Int) := by omega
      have HC1 := Lib.hid (HC.out at_ ha)
      cases hq : lsQ (l.drop at_) with
      | none =>
        have HF := Lib.hid (show Q = (L, at_) by rw [HQ.out, rcA_no hq]; simp)
        rw [hq] at HC1
        clear HQ HC hq
        go_wp2_with fail
        refine (HC1.out _).mono ?_; rintro z w1 ⟨⟨s, d, u, m, rfl, ns, hq, ho, hlt⟩, hb⟩
        obtain ⟨ao1, c1, rfl, hc3⟩ := ho.slice
        obtain ⟨rfl, rfl, rfl, rfl⟩ : (⟨#[]⟩ : ByteArray) = s ∧ (0 : Int) = d ∧ ([] : List Nat) = ns ∧ 0 = m := by
          have h : ((⟨#[]⟩ : ByteArray), (0 : Int), ([] : List Nat), 0) = (s, d, ns, m) := hq
          injection h with e1 h; injection h with e2 h; injection h with e3 e4
          exact ⟨e1, e2, e3, e4⟩
        have HV1 := Lib.hid (HV.out.keep hb)
        have HB1 := Lib.hid (HB.out.trans (hb.mono (Nat.le_of_lt hsz)))
        have hz1 := hb.size
        clear hb ho hlt hq HV HB HC1
        go_wp2_with (first | (refine wpList_storeAgg (us := [.string ⟨#[]⟩, .int .i64 0, .slice ao1 0 c1]) (storeSd _ _ _ _ _ _ _) rfl rfl (by simp [Value.oneCell']) (BK.new _ [.string ⟨#[]⟩, .int .i64 0, .slice none 0 0] _) (by simp) ?_; intro w2 hE hO hL2 hZ hG; have HV2 := Lib.hid (HV1.out.keep (hL2 _ _ ((Below.refl _ _).alloc (Nat.le_refl _) _) (Nat.le_refl _))); have HB2 := Lib.hid (hL2 _ _ (HB1.out.alloc HB1.out.size _) (by omega)); (try simp only [World.size_alloc] at hZ); clear hE hO hL2 hG HV1 HB1))
        go_ret3
        have h7 := HF.out
        subst h7
        exact ⟨⟨_, rfl, HV2.out.mono (by omega)⟩, HB2.out⟩
      | some q' =>
        obtain ⟨s', d', ns', m'⟩ := q'
        have HQ2 := Lib.hid (rcA_step h8 hq HQ.out)
        have hpos := lsQ_pos hq
        have hend := lsQ_end hq
        have hok := lsQ_ok hq
        rw [List.length_drop] at hend
        rw [hq] at HC1
        clear HQ HC hq
        have HSZ := Lib.hid (show s'.size ≤ 8 from (savedOk_facts hok).1)
        clear hok
        go_wp2_with fail
        refine (HC1.out _).mono ?_; rintro z w1 ⟨⟨s, d, u, m, rfl, ns, hq, ho, hlt⟩, hb⟩
        obtain ⟨ao1, c1, rfl, hc3⟩ := ho.slice
        obtain ⟨rfl, rfl, rfl, rfl⟩ : s' = s ∧ d' = d ∧ ns' = ns ∧ m' = m := by
          have h : (s', d', ns', m') = (s, d, ns, m) := hq
          injection h with e1 h; injection h with e2 h; injection h with e3 e4
          exact ⟨e1, e2, e3, e4⟩
        have HV1 := Lib.hid (HV.out.keep hb)
        have HB1 := Lib.hid (HB.out.trans (hb.mono (Nat.le_of_lt hsz)))
        have HO1 := Lib.hid (GO.ow ho hlt)
        have hz1 := hb.size
        have hm0 : ¬ (m' : Int) = 0 := by omega
        have hmb : ((m' : Int) == 0) = false := by rw [beq_eq_false_iff_ne]; omega
        clear hb ho hlt hq HV HB HC1
        have j3 : IntKind.i64.wrap ((at_ : Int) + (m' : Int)) = (at_ : Int) + (m' : Int) := by rw [IntKind.wrap_i64]; omega
        have HCL := Lib.hid (show L.length ≤ 8 by omega)
        go_wp2_with (first
          | (refine wpList_storeAgg (us := [.string s', .int .i64 d', .slice ao1 ns'.length c1]) (storeSd _ _ _ _ _ _ _) rfl rfl (by simp [Value.oneCell']) (BK.new _ [.string ⟨#[]⟩, .int .i64 0, .slice none 0 0] _) (by simp) ?_; intro w2 hE hO hL2 hZ hG; have hb2 := hL2 _ _ ((Below.refl w1.heap.size w1).alloc (Nat.le_refl _) _) (Nat.le_refl _); have HV2 := Lib.hid (HV1.out.keep hb2); have HO2 := Lib.hid (HO1.out.keep hb2); have HB2 := Lib.hid (HB1.out.trans (hb2.mono HB1.out.size)); (try simp only [World.size_alloc] at hZ); simp [setsAt] at hE; have HE2 := Lib.hid hE; have hs0 := hE.at (i := 0) rfl; have hs1 := hE.at (i := 1) rfl; have hs2 := hE.at (i := 2) rfl; clear hE hO hL2 hG HV1 HB1 HO1 hb2)
          | (at_builtin; clear hs0 hs1 hs2; refine wpList_rvpush rfl _ _ _ rfl (T2 := 54) (k := wr.heap.size) i0 _ Try.underlying25 HI0.out HZ0.out HZ1.out HZ2.out rfl (by decide) _ L rfl (HV2.out.alloc (.cells #[.string s', .int .i64 d', .slice ao1 ns'.length c1] 34)) s' d' (ns'.map (cn .f32)) (.slice ao1 ns'.length c1) (HO2.out.alloc _) rfl (by have := HSZ.out; omega) (Nat.le_refl _) (Nat.le_of_lt hsz) (by simp; omega) w2.heap.size 1 rfl (by simp) (by simp) (by simp) (by have := HCL.out; omega) ?_
             intro v2 w3 hV hg hlo; have hz3 := hg.size; (try simp only [World.size_alloc] at hz3); have HV3 := Lib.hid hV; have HB3 := Lib.hid (show Below w.heap.size w w3 from (HB2.out.alloc HB2.out.size _).grown hg (by simp; omega) hlo); obtain ⟨ao3, c3, rfl, hc4, hc5⟩ := HV3.out.slice; clear hV hg hlo HV2 HB2))
        have hl1 : (L ++ [(s', d', ns'.map (cn .f32))]).length = L.length + 1 := by simp
        refine ⟨⟨_, at_ + m', by omega, by omega, congrArg (Value.int .i64) (by omega), HQ2, by rw [← hl1]; exact HV3, HB3, by omega⟩, by show 8 - (L.length + 1) < 8 - L.length; omega⟩
    · have h80 : L.length = 8 := by omega
      have HF := Lib.hid (show Q = (L, at_) by rw [HQ.out, h80, Nat.sub_self]; simp [rcA])
      have j0 : ¬ (L.length : Int) < 8 := by omega
      clear HQ h8 h80
      go_wp2_with fail
      go_ret3
      have h7 := HF.out
      subst h7
      exact ⟨⟨_, rfl, HV.out⟩, HB.out⟩

end Go.Proofs.Ytfckfdaloamkdaa
