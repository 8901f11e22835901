/- Contracts: what is saved in front of bytes, by the program: taken. -/
import Derived.Test.YtfckfdaloamkdaaK131
import Derived.Deep.RegionHeld3
namespace Go.Proofs.Ytfckfdaloamkdaa
set_option linter.unusedSimpArgs false
set_option linter.unusedVariables false
set_option maxRecDepth 100000
set_option maxHeartbeats 4000000
open Go.RowKit
attribute [local go_sem] run_store_float run_store_complex alloc_drewN setCell_drewN
theorem BK.wiT {lo hi : Nat} {w w' : World} {p : Nat} {vs : List Value} (h : BK w p vs) (hw : Wi lo hi w w') (hp : p < lo ∨ hi ≤ p) : BK w' p vs := by
  have hb := hw.block p h.lt hp
  refine ⟨Nat.lt_of_lt_of_le h.lt hw.size, fun i hi => ?_, fun i => ?_⟩
  · have h1 := h.cells i hi
    rw [← h1]
    simp only [World.cell?, hb]
  · have h1 := h.fro i
    rw [← h1]
    simp only [World.frozen?, hb]
theorem GO.wiT {α : Type} {inj : α → Value} {T lo a b : Nat} {w w' : World} {v : Value} {xs : List α} (h : GO inj T lo w v xs) (hw : Wi a b w w') (hb : b ≤ lo) : GO inj T lo w' v xs :=
  own_wi (hi := w.heap.size) h (fun g e => (h.block g e).2) hw (.inl hb)
theorem GO.kept_offT {α : Type} {inj : α → Value} {T lo p : Nat} {w W : World} {v : Value} {xs : List α} (h : GO inj T lo w v xs) (hg : w.grownBy W (some p)) (hp : p < lo) : GO inj T lo W v xs := by
  refine GO.kept h hg ?_
  by_cases hb0 : v.ownBlock = none
  · exact .inl hb0
  · refine .inr fun e => ?_
    have := GO.own_ge h _ e
    omega
theorem f32T_one (n : Nat) : (Value.float .f32 n).oneCell' = true := rfl
theorem str_neT {s s' : ByteArray} (h : s ≠ s') : (s.toList == s'.toList) = false := by
  rw [beq_eq_false_iff_ne]
  intro e
  rw [ByteArray.toList_eq, ByteArray.toList_eq] at e
  exact h (ByteArray.ext (Array.toList_inj.1 e))
theorem tk_len (l : List UInt8) (a : Nat) (sh : Bool) (n : Nat) : (tk l a sh n).1.length ≤ n := by
  unfold tk
  split
  · rw [List.length_replicate]; exact Nat.le_refl _
  · rw [List.length_take]; omega
theorem leV_tk1 (l : List UInt8) (a : Nat) (sh : Bool) : leV (tk l a sh 1).1 < 256 := by
  have h : (tk l a sh 1).1.length ≤ 1 := by
    unfold tk
    split
    · rw [List.length_replicate]; exact Nat.le_refl _
    · rw [List.length_take]; omega
  have h1 := leV_lt (tk l a sh 1).1
  have h2 : 256 ^ (tk l a sh 1).1.length ≤ 256 ^ 1 := Nat.pow_le_pow_right (by decide) h
  omega
theorem leV_tk4 (l : List UInt8) (a : Nat) (sh : Bool) : leV (tk l a sh 4).1 < 4294967296 := by
  have h : (tk l a sh 4).1.length ≤ 4 := by
    unfold tk
    split
    · rw [List.length_replicate]; omega
    · rw [List.length_take]; omega
  have h1 := leV_lt (tk l a sh 4).1
  have h2 : 256 ^ (tk l a sh 4).1.length ≤ 256 ^ 4 := Nat.pow_le_pow_right (by decide) h
  have h3 : (256 : Nat) ^ 4 = 4294967296 := by decide
  omega
theorem tk_at {l : List UInt8} {a n : Nat} {sh : Bool} (h : a ≤ l.length) : (tk l a sh n).2.1 ≤ l.length := by
  unfold tk
  split
  · exact h
  · show a + n ≤ _; omega
theorem tkN_at {l : List UInt8} {a : Nat} {sh : Bool} (h : a ≤ l.length) : ∀ n, (tkN l a sh n).2.1 ≤ l.length
  | 0 => h
  | n + 1 => tk_at (tkN_at h n)
theorem tkN_len (l : List UInt8) (a : Nat) (sh : Bool) : ∀ n, (tkN l a sh n).1.length = n
  | 0 => rfl
  | n + 1 => by
    show ((tkN l a sh n).1 ++ [_]).length = _
    rw [List.length_append, tkN_len l a sh n]; rfl
theorem tkN_lt (l : List UInt8) (a : Nat) (sh : Bool) : ∀ n, ∀ x ∈ (tkN l a sh n).1, x < 4294967296
  | 0, x, h => by cases h
  | n + 1, x, h => by
    rcases List.mem_append.1 (show x ∈ (tkN l a sh n).1 ++ [_] from h) with h | h
    · exact tkN_lt l a sh n x h
    · rw [List.mem_singleton.1 h]; exact leV_tk4 ..

theorem c_F32frombits (n : Nat) (w : World) : Sem.run Try.prog (callFunc 119 #[.int .u32 (n : Int)]) w = .ok (.value (.float .f32 n)) w := by kernel_rfl
theorem i_FromBits (n : Nat) (hn : n < 4294967296) (w : World) :
    Calls Try.prog 105 #[.int .i64 (n : Int)] w fun e w' => e = .returned (.tuple #[.float .f32 n, .bool true]) ∧ Dr w w' := by
  have h1 : IntKind.u32.wrap (n : Int) = (n : Int) := by rw [IntKind.wrap_u32]; omega
  have hb := c_F32frombits
  have HI := Lib.hid (show ∀ w, Calls Try.prog 73 #[.int .i64 (n : Int), .int .i64 0, .int .i64 4294967295] w fun e w' => e = .returned (.bool true) ∧ Dr w w' from fun w => by
    have h := i_within (n : Int) 0 4294967295 w
    rw [show inB (n : Int) 0 4294967295 = true from (inB_iff _ _ _).2 ⟨by omega, by omega⟩] at h
    exact h)
  go_enter Try.func105, Try.ntmps105
  go_wp2_with fail
  refine (HI.out _).mono ?_; rintro e w1 ⟨rfl, hd⟩
  go_wp2_with fail
  go_ret2
  exact ⟨rfl, hd⟩

theorem oneF32T : OneC Try.prog 28 54 (.float .f32 0) 4 := oneC_of Try.underlying28 (by kernel_rfl) rfl (by decide)
theorem storeSd (p j : Nat) (s : ByteArray) (d : Int) (bo : Option Addr) (n c : Nat) : ∀ w, (Instr.storeAt 34 (.pointer (some ⟨p, j, none⟩)) (.agg [.string s, .int .i64 d, .slice bo n c].toArray)).run Try.prog w = (storeCells ⟨p, j, none⟩ [.string s, .int .i64 d, .slice bo n c] 0).run Try.prog w := by intro w; go_simp
theorem storeD (p j : Nat) (x : Int) : ∀ w, (Instr.storeAt 2 (.pointer (some ⟨p, j, none⟩)) (.int .i64 x)).run Try.prog w = (store ⟨p, j, none⟩ (.int .i64 x) .plain).run Try.prog w := by intro w; go_simp
theorem storeF (p j : Nat) (bo : Option Addr) (n c : Nat) : ∀ w, (Instr.storeAt 28 (.pointer (some ⟨p, j, none⟩)) (.slice bo n c)).run Try.prog w = (store ⟨p, j, none⟩ (.slice bo n c) .plain).run Try.prog w := by intro w; go_simp
theorem i_taken (T : ByteArray) (hT : T.size ≤ 100000000) (w : World) :
    Calls Try.prog 64 #[.string T] w fun e w' => (∃ s d u m, e = .returned (.tuple #[.agg #[.string s, .int .i64 d, u], .int .i64 ((m : Nat) : Int)]) ∧ ∃ ns, (takenQ T.data.toList).getD (⟨#[]⟩, 0, [], 0) = (s, d, ns, m) ∧ GO (Value.float .f32) 54 w.heap.size w' u ns ∧ (∀ i ∈ ns, i < 4294967296)) ∧ Below w.heap.size w w' := by
  have hll : T.data.toList.length = T.size := by simp
  have HQ := Lib.hid (takenQ.eq_1 T.data.toList)
  generalize takenQ T.data.toList = Q at HQ ⊢
  have HTK := Lib.hid (fun p a sh n (ha : a ≤ T.size) (hn : n ≤ 1000) w (hB : BK w p (TKc T a sh)) => i_take p T a sh n hT ha hn w hB)
  have HNM := Lib.hid (fun p a sh n (ha : a ≤ T.size) (hn : n ≤ 4) w (hB : BK w p (TKc T a sh)) => i_number p T a sh n hT ha hn w hB)
  have HTX := Lib.hid (fun m => show T.extract 0 m = tx (T.data.toList.take m) by rw [tx_piece]; rfl)
  obtain ⟨l, hl⟩ : ∃ l, l = T.data.toList := ⟨_, rfl⟩
  rw [← hl] at hll HQ HTK HNM HTX
  clear hl
  have HRb := Lib.hid (BK.new w [.string ⟨#[]⟩, .int .i64 0, .slice none 0 0] 34)
  have HW0 := Lib.hid (show Below w.heap.size w (w.alloc (.cells [.string ⟨#[]⟩, .int .i64 0, .slice none 0 0].toArray 34)) from (Below.refl _ _).alloc (Nat.le_refl _) _)
  have HPb := Lib.hid (BK.newAt3 (n := w.heap.size + 1) (w.alloc (.cells [.string ⟨#[]⟩, .int .i64 0, .slice none 0 0].toArray 34)) (TKc T 0 false) 128 (by simp))
  have HR1 := Lib.hid (HRb.out.alloc (.cells (TKc T 0 false).toArray 128))
  have HW1 := Lib.hid (HW0.out.alloc HW0.out.size (.cells (TKc T 0 false).toArray 128))
  clear HRb HW0
  have HC0 := Lib.hid (HTK.out (w.heap.size + 1) 0 false 4 (by omega) (by omega) _ HPb.out)
  go_enter Try.func64, Try.ntmps64
  go_wp2_with fail
  have hr1 := HW1.out.size
  have haa := tk_at (l := l) (a := 0) (n := 4) (sh := false) (by omega)
  generalize tk l 0 false 4 = q1 at HC0 HQ haa
  obtain ⟨m0, a1, s1⟩ := q1
  have ha1 : a1 ≤ l.length := haa
  have HQ : Hid (Q = if m0 = [83, 69, 82, 49] then tkR l a1 s1 else none) := HQ
  clear haa
  refine HC0.out.mono ?_; rintro z w2 ⟨rfl, hp, hw⟩
  have HP2 := Lib.hid (show BK w2 (w.heap.size + 1) (TKc T a1 s1) from hp)
  clear hp HC0 HPb
  have hz2 := hw.size
  have HR2 := Lib.hid (HR1.out.wiT hw (by omega)); clear HR1
  have HW2 := Lib.hid (HW1.out.trans (hw.below (by have := HW1.out.size; omega) (by omega))); clear HW1
  clear hw
  by_cases hm : m0 = [83, 69, 82, 49]
  · have HQ2 := Lib.hid (HQ.out.trans (if_pos hm))
    have e1 : (tx m0).toList = [83, 69, 82, 49] := by rw [ByteArray.toList_eq, tx_data]; exact hm
    have e2 : tx m0 = ⟨#[83, 69, 82, 49]⟩ := by rw [hm]; rfl
    clear hm HQ
    generalize tx m0 = t0 at *
    unfold tkR at HQ2
    dsimp only at HQ2
    have hp2 := HP2.out.lt
    have haa := tk_at (l := l) (a := a1) (n := 1) (sh := s1) (by omega)
    have HC := Lib.hid (HNM.out (w.heap.size + 1) a1 s1 1 (by omega) (by omega) _ HP2.out)
    have hk := leV_tk1 l a1 s1
    generalize tk l a1 s1 1 = q at *
    obtain ⟨mk, a2, s2⟩ := q
    have ha2 : a2 ≤ l.length := haa
    clear haa
    dsimp only at HC HQ2
    (try go_wp2_with fail)
    refine HC.out.mono ?_; rintro z w3 ⟨rfl, hp, hw⟩
    have HP3 := Lib.hid (show BK w3 (w.heap.size + 1) (TKc T a2 s2) from hp)
    clear hp HC HP2
    have hz3 := hw.size
    have HR3 := Lib.hid (HR2.out.wiT hw (by omega)); clear HR2
    have HW3 := Lib.hid (HW2.out.trans (hw.below (by have := HW2.out.size; omega) (by omega))); clear HW2
    clear hw
    obtain ⟨k, hkk⟩ : ∃ k, k = leV mk := ⟨_, rfl⟩
    rw [← hkk] at hk HQ2 ⊢
    clear hkk
    have haa := tk_at (l := l) (a := a2) (n := k) (sh := s2) (by omega)
    have HC := Lib.hid (HTK.out (w.heap.size + 1) a2 s2 k (by omega) (by omega) _ HP3.out)
    have HMNL := Lib.hid (tk_len l a2 s2 k)
    generalize tk l a2 s2 k = q at *
    obtain ⟨mn, a3, s3⟩ := q
    have ha3 : a3 ≤ l.length := haa
    clear haa
    dsimp only at HC HQ2
    (try go_wp2_with fail)
    refine HC.out.mono ?_; rintro z w4 ⟨rfl, hp, hw⟩
    have HP4 := Lib.hid (show BK w4 (w.heap.size + 1) (TKc T a3 s3) from hp)
    clear hp HC HP3
    have hz4 := hw.size
    have HR4 := Lib.hid (HR3.out.wiT hw (by omega)); clear HR3
    have HW4 := Lib.hid (HW3.out.trans (hw.below (by have := HW3.out.size; omega) (by omega))); clear HW3
    clear hw
    have HNAME := Lib.hid (rfl : tx mn = tx mn)
    obtain ⟨nm, hnm⟩ : ∃ nm, nm = tx mn := ⟨_, rfl⟩
    rw [← hnm]
    have HNM2 := Lib.hid hnm
    clear hnm HNAME
    have HNZ := Lib.hid (show nm.size ≤ 9223372036854775807 by rw [HNM2.out, tx_size]; have := HMNL.out; omega)
    go_wp2_with (refine wpList_storeAgg (us := [.string nm, .int .i64 0, .slice none 0 0]) (storeSd _ _ _ _ _ _ _) rfl rfl (by simp [Value.oneCell']) (BK.new _ [.string ⟨#[]⟩, .int .i64 0, .slice none 0 0] _) (by simp) ?_; intro w5 hE hO hL hZ hG; have HR5 := Lib.hid (hO _ _ (HR4.out.alloc _) (by omega)); have HP5 := Lib.hid (hO _ _ (HP4.out.alloc _) (by omega)); have HW5 := Lib.hid (hL _ _ (HW4.out.alloc HW4.out.size _) (by omega)); simp [setsAt] at hE; have HS5 := Lib.hid hE; (try simp only [World.size_alloc] at hZ); clear hE hO hL hG HR4 HP4 HW4)
    obtain ⟨g, hg⟩ : ∃ g, g = w4.heap.size := ⟨_, rfl⟩
    rw [← hg] at HS5 ⊢
    have hgl : w.heap.size + 2 ≤ g := by omega
    have hg5 : g < w5.heap.size := by omega
    clear hg
    have haa := tk_at (l := l) (a := a3) (n := 4) (sh := s3) (by omega)
    have HC := Lib.hid (HNM.out (w.heap.size + 1) a3 s3 4 (by omega) (by omega) _ HP5.out)
    have hd := leV_tk4 l a3 s3
    generalize tk l a3 s3 4 = q at *
    obtain ⟨md, a4, s4⟩ := q
    have ha4 : a4 ≤ l.length := haa
    clear haa
    dsimp only at HC HQ2
    (try go_wp2_with fail)
    refine HC.out.mono ?_; rintro z w6 ⟨rfl, hp, hw⟩
    have HP6 := Lib.hid (show BK w6 (w.heap.size + 1) (TKc T a4 s4) from hp)
    clear hp HC HP5
    have hz6 := hw.size
    have HR6 := Lib.hid (HR5.out.wiT hw (by omega)); clear HR5
    have HS6 := Lib.hid (HS5.out.wiT hw (by omega)); clear HS5
    have HW6 := Lib.hid (HW5.out.trans (hw.below (by have := HW5.out.size; omega) (by omega))); clear HW5
    clear hw
    obtain ⟨d, hdd⟩ : ∃ d, d = leV md := ⟨_, rfl⟩
    rw [← hdd] at hd HQ2 ⊢
    clear hdd
    go_wp2_with (refine wpList_storeBK3 (storeD _ _ _) rfl rfl rfl HS6.out (by simp) ?_; intro w7 hE hO hL hZ hG; have HR7 := Lib.hid (hO _ _ HR6.out (by omega)); have HP7 := Lib.hid (hO _ _ HP6.out (by omega)); have HW7 := Lib.hid (hL _ _ HW6.out (by omega)); simp only [List.set_cons_zero, List.set_cons_succ] at hE; have HS7 := Lib.hid hE; clear hE hO hL hG HR6 HP6 HW6 HS6)
    have haa := tk_at (l := l) (a := a4) (n := 1) (sh := s4) (by omega)
    have HC := Lib.hid (HNM.out (w.heap.size + 1) a4 s4 1 (by omega) (by omega) _ HP7.out)
    have hn := leV_tk1 l a4 s4
    generalize tk l a4 s4 1 = q at *
    obtain ⟨mm, a5, s5⟩ := q
    have ha5 : a5 ≤ l.length := haa
    clear haa
    dsimp only at HC HQ2
    (try go_wp2_with fail)
    refine HC.out.mono ?_; rintro z w8 ⟨rfl, hp, hw⟩
    have HP8 := Lib.hid (show BK w8 (w.heap.size + 1) (TKc T a5 s5) from hp)
    clear hp HC HP7
    have hz8 := hw.size
    have HR8 := Lib.hid (HR7.out.wiT hw (by omega)); clear HR7
    have HS8 := Lib.hid (HS7.out.wiT hw (by omega)); clear HS7
    have HW8 := Lib.hid (HW7.out.trans (hw.below (by have := HW7.out.size; omega) (by omega))); clear HW7
    clear hw
    obtain ⟨n, hnn⟩ : ∃ n, n = leV mm := ⟨_, rfl⟩
    rw [← hnn] at hn HQ2 ⊢
    clear hnn
    go_wp2_with fail
    go_loopw [28] (fun i wr => ∃ (k' : Nat) (u : Value), k' ≤ n ∧ i = .int .i64 (k' : Int) ∧ Hid (BK wr w.heap.size [.string ⟨#[]⟩, .int .i64 0, .slice none 0 0]) ∧ Hid (BK wr (w.heap.size + 1) (TKc T (tkN l a5 s5 k').2.1 (tkN l a5 s5 k').2.2)) ∧ Hid (BK wr g [.string nm, .int .i64 ((d : Int) - 1000000), u]) ∧ Hid (GO (Value.float .f32) 54 (g + 1) wr u (tkN l a5 s5 k').1) ∧ Hid (Below w.heap.size w wr)) (fun i _ => n - (intOf i).toNat)
    case atStart => exact ⟨0, _, Nat.zero_le _, rfl, HR8.out, HP8.out, HS8.out, GO.nil _ _ _, HW8.out⟩
    case round =>
      obtain ⟨k', u, hk', rfl, HR, HP, HS, HU, HW⟩ := hrel
      clear HR8 HP8 HS8 HW8 hz8
      have hpl := HP.out.lt
      have hgl2 := HS.out.lt
      obtain ⟨ao, cu, rfl, hcu⟩ := GO.slice HU.out
      have HLN := Lib.hid (tkN_len l a5 s5 k')
      have hatk := tkN_at (l := l) (a := a5) (sh := s5) ha5 k'
      by_cases hlt : k' < n
      · have HST := Lib.hid (show tkN l a5 s5 (k' + 1) = ((tkN l a5 s5 k').1 ++ [leV (tk l (tkN l a5 s5 k').2.1 (tkN l a5 s5 k').2.2 4).1], (tk l (tkN l a5 s5 k').2.1 (tkN l a5 s5 k').2.2 4).2.1, (tk l (tkN l a5 s5 k').2.1 (tkN l a5 s5 k').2.2 4).2.2) from rfl)
        generalize tkN l a5 s5 k' = qk at *
        obtain ⟨ns, ak, sk⟩ := qk
        dsimp only at HP HU HLN hatk HST
        have hnl : ns.length ≤ 255 := by have := HLN.out; omega
        have HC := Lib.hid (HNM.out (w.heap.size + 1) ak sk 4 (by omega) (by omega) _ HP.out)
        have hx4 := leV_tk4 l ak sk
        have hat2 := tk_at (l := l) (a := ak) (n := 4) (sh := sk) hatk
        generalize tk l ak sk 4 = q at *
        obtain ⟨bx, ax, sx⟩ := q
        dsimp only at HC HST hx4 hat2
        generalize leV bx = x at *
        have hki : (k' : Int) < (n : Int) := by omega
        go_wp2_with fail
        refine HC.out.mono ?_; rintro z wa ⟨rfl, hp, hw⟩
        have HPa := Lib.hid (show BK wa (w.heap.size + 1) (TKc T ax sx) from hp)
        have HRa := Lib.hid (HR.out.wiT hw (by omega))
        have HSa := Lib.hid (HS.out.wiT hw (by omega))
        have HUa := Lib.hid (GO.wiT HU.out hw (by omega))
        have HWa := Lib.hid (HW.out.trans (hw.below (by have := HW.out.size; omega) (by omega)))
        have hza := hw.size
        clear hp hw HC HP HR HS HU HW
        go_wp2_with fail
        refine (i_FromBits x hx4 _).mono ?_; rintro z wb ⟨rfl, hd1⟩
        have hbb := hd1.below wa.heap.size
        have HPb := Lib.hid (HPa.out.keep hbb)
        have HRb := Lib.hid (HRa.out.keep hbb)
        have HSb := Lib.hid (HSa.out.keep hbb)
        have HUb := Lib.hid (GO.keep HUa.out hbb)
        have HWb := Lib.hid (HWa.out.trans (hbb.mono HWa.out.size))
        have hzb := hbb.size
        have hy2 := HSb.out.at (i := 2) rfl
        clear hd1 hbb HPa HRa HSa HUa HWa
        go_wp2_with (first
          | (at_builtin; refine wpList_gapp (inj := Value.float .f32) oneF32T f32T_one (g + 1) _ _ rfl (GO.alloc HUb.out _) [x] _ 1 rfl rfl (by intro i u hu; cases i with | zero => (simp only [List.getElem?_cons_zero, Option.some.injEq] at hu; subst hu; simp) | succ i => simp at hu) (by simp only [List.length_cons, List.length_nil]; omega) (by simp; omega) ?_; intro v2 wc hown2 hg2; obtain ⟨bo2, co2, rfl, hco2⟩ := GO.slice hown2; have hwc := Wi.of_grown (lo := g + 1) (hi := (wb.alloc (.cells #[.float .f32 x] 54)).heap.size) hg2 (fun g' e => GO.block (GO.alloc HUb.out _) g' e); have HUc := Lib.hid hown2; have HPc := Lib.hid ((HPb.out.alloc (.cells #[.float .f32 x] 54)).wiT hwc (by omega)); have HRc := Lib.hid ((HRb.out.alloc (.cells #[.float .f32 x] 54)).wiT hwc (by omega)); have HSc := Lib.hid ((HSb.out.alloc (.cells #[.float .f32 x] 54)).wiT hwc (by omega)); have HWc := Lib.hid (show Below w.heap.size w wc from (HWb.out.alloc HWb.out.size (.cells #[.float .f32 x] 54)).trans (hwc.below (by have := HWb.out.size; simp; omega) (by omega))); clear hown2 hg2 hwc hy2 HUb HPb HRb HSb HWb)
          | (refine wpList_storeBK3 (storeF _ _ _ _ _) rfl rfl rfl HSc.out (by simp) ?_; intro we hE hO hL hZ hG; have HRe := Lib.hid (hO _ _ HRc.out (by omega)); have HPe := Lib.hid (hO _ _ HPc.out (by omega)); have HWe := Lib.hid (hL _ _ HWc.out (by omega)); have HUe := Lib.hid (GO.kept_offT HUc.out hG (by omega)); simp only [List.set_cons_zero, List.set_cons_succ] at hE; have HSe := Lib.hid hE; clear hE hO hL hG HRc HPc HWc HUc HSc))
        refine ⟨⟨k' + 1, _, by omega, by go_num, HRe.out, ?_, HSe.out, ?_, HWe.out⟩, by simp [intOf]; omega⟩
        · show BK _ _ _
          rw [HST.out]; exact HPe.out
        · show GO _ _ _ _ _ _
          rw [HST.out]
          have h := HUe.out
          simp only [List.length_append, List.length_cons, List.length_nil] at h
          exact h
      · have hkn : k' = n := by omega
        subst hkn
        have hall := tkN_lt l a5 s5 k'
        generalize tkN l a5 s5 k' = qk at *
        obtain ⟨ns, ak, sk⟩ := qk
        dsimp only at HP HU HLN hatk hall HQ2
        have hnl : ns.length ≤ 255 := by have := HLN.out; omega
        have HC := Lib.hid (HTK.out (w.heap.size + 1) ak sk 2 (by omega) (by omega) _ HP.out)
        have hat2 := tk_at (l := l) (a := ak) (n := 2) (sh := sk) hatk
        generalize tk l ak sk 2 = q at *
        obtain ⟨bx, a7, s7⟩ := q
        dsimp only at HC hat2 HQ2
        have HALL := Lib.hid hall
        clear hall
        have hki : ¬ (k' : Int) < (k' : Int) := by omega
        go_wp2_with fail
        refine HC.out.mono ?_; rintro z wa ⟨rfl, hp, hw⟩
        have HPa := Lib.hid (show BK wa (w.heap.size + 1) (TKc T a7 s7) from hp)
        have HRa := Lib.hid (HR.out.wiT hw (by omega))
        have HSa := Lib.hid (HS.out.wiT hw (by omega))
        have HUa := Lib.hid (GO.wiT HU.out hw (by omega))
        have HWa := Lib.hid (HW.out.trans (hw.below (by have := HW.out.size; omega) (by omega)))
        have hza := hw.size
        have hy2 := HPa.out.at (i := 2) rfl
        clear hp hw HC HP HR HS HU HW
        cases s7 with
        | true =>
          have HF := Lib.hid (show Q = none from HQ2.out)
          go_wp2_with (refine wpList_storeAgg (us := [.string ⟨#[]⟩, .int .i64 0, .slice none 0 0]) (storeSd _ _ _ _ _ _ _) rfl rfl (by simp [Value.oneCell']) HRa.out (by simp) ?_; intro W hE hO hL hZ hG; have HWz := Lib.hid (hL _ _ HWa.out (by omega)); simp [setsAt] at hE; have hce := hE.cells; clear hO hL hG)
          (try simp only [Exit.inBlock, Exit.then])
          exact bodyPost_ret (by simp [results, Try.results64, go_sem, hce]; try rfl) rfl ⟨⟨⟨#[]⟩, 0, .slice none 0 0, 0, rfl, [], by rw [HF.out]; rfl, GO.nil _ _ _, by simp⟩, HWz.out⟩
        | false =>
          have HQ3 := Lib.hid (show Q = ldK l (mn, d, ns, a7) from HQ2.out)
          rw [ldK, ← HNM2.out] at HQ3
          have HSB := Lib.hid (OW.sb (⟨ns, HUa.out, rfl, HALL.out⟩ : OW 54 (g + 1) wa _ (ns.map (cn .f32))))
          have hs0 := HSa.out.at (i := 0) rfl
          have hs1 := HSa.out.at (i := 1) rfl
          have hs2 := HSa.out.at (i := 2) rfl
          have HSS := Lib.hid (i_StoreSaved nm HNZ.out ((d : Int) - 1000000) _ _ _ HSB.out)
          generalize hD : (d : Int) - 1000000 = D at *
          clear hD
          cases hok : savedOk nm D (ns.map (cn .f32)) with
          | false =>
            have HF := Lib.hid (show Q = none by rw [HQ3.out, if_neg (fun hh => by rw [hok] at hh; cases hh.1)])
            rw [hok] at HSS
            go_wp2_with fail
            refine HSS.out.mono ?_; rintro z wb ⟨rfl, hb⟩
            have HPb := Lib.hid (HPa.out.keep hb)
            have HRb := Lib.hid (HRa.out.keep hb)
            have HSb := Lib.hid (HSa.out.keep hb)
            have HUb := Lib.hid (GO.keep HUa.out hb)
            have HWb := Lib.hid (HWa.out.trans (hb.mono HWa.out.size))
            have hzb := hb.size
            clear hb HPa HRa HSa HUa HWa hs0 hs1 hs2 hy2 HSS
            have e0 : (storeQ nm D (ns.map (cn .f32)) false).2 = false := rfl
            have e00 : (storeQ nm D (ns.map (cn .f32)) false).1 = ⟨#[]⟩ := rfl
            rw [e0, e00]
            go_wp2_with (refine wpList_storeAgg (us := [.string ⟨#[]⟩, .int .i64 0, .slice none 0 0]) (storeSd _ _ _ _ _ _ _) rfl rfl (by simp [Value.oneCell']) HRb.out (by simp) ?_; intro W hE hO hL hZ hG; have HWz := Lib.hid (hL _ _ HWb.out (by omega)); simp [setsAt] at hE; have hce := hE.cells; clear hO hL hG)
            (try simp only [Exit.inBlock, Exit.then])
            exact bodyPost_ret (by simp [results, Try.results64, go_sem, hce]; try rfl) rfl ⟨⟨⟨#[]⟩, 0, .slice none 0 0, 0, rfl, [], by rw [HF.out]; rfl, GO.nil _ _ _, by simp⟩, HWz.out⟩
          | true =>
            rw [hok] at HSS
            go_wp2_with fail
            refine HSS.out.mono ?_; rintro z wb ⟨rfl, hb⟩
            have HPb := Lib.hid (HPa.out.keep hb)
            have HRb := Lib.hid (HRa.out.keep hb)
            have HSb := Lib.hid (HSa.out.keep hb)
            have HUb := Lib.hid (GO.keep HUa.out hb)
            have HWb := Lib.hid (HWa.out.trans (hb.mono HWa.out.size))
            have hzb := hb.size
            clear hb HPa HRa HSa HUa HWa hs0 hs1 hs2 hy2 HSS
            have e0 : (storeQ nm D (ns.map (cn .f32)) true).2 = true := rfl
            have e00 : (storeQ nm D (ns.map (cn .f32)) true).1 = tx (storeB nm D (ns.map (cn .f32))) := rfl
            rw [e0, e00]
            have hy1 := HPb.out.at (i := 1) rfl
            have hti : (a7 : Int) ≤ (T.size : Int) := by omega
            have hta : a7 ≤ T.size := by omega
            have HX := Lib.hid (HTX.out a7)
            by_cases hx : storeB nm D (ns.map (cn .f32)) = l.take a7
            · have HF := Lib.hid (show Q = some (nm, D, ns, a7) by rw [HQ3.out, if_pos ⟨hok, hx⟩])
              have et : tx (storeB nm D (ns.map (cn .f32))) = T.extract 0 a7 := by rw [HX.out, hx]
              rw [et]
              clear et hx HX hok HQ2 HQ3 HSB
              have hs0 := HSb.out.at (i := 0) rfl
              have hs1 := HSb.out.at (i := 1) rfl
              have hs2 := HSb.out.at (i := 2) rfl
              have g0 := HRb.out.at (i := 0) rfl
              have g1 := HRb.out.at (i := 1) rfl
              have g2 := HRb.out.at (i := 2) rfl
              have gf := HRb.out.fro
              have n1 : g ≠ w.heap.size := by omega
              have n2 : w.heap.size ≠ g := by omega
              have n3 : w.heap.size + 1 ≠ w.heap.size := by omega
              go_wp2_with fail
              go_region_held3 (fun W => W.cell? ⟨g, 0, none⟩ = some (.string nm) ∧ W.cell? ⟨g, 1, none⟩ = some (.int .i64 D) ∧ W.cell? ⟨g, 2, none⟩ = some (.slice ao ns.length cu) ∧ W.cell? ⟨w.heap.size + 1, 1, none⟩ = some (.int .i64 (a7 : Int))) (first | (simp; done) | (simp [*]; done) | go_keep) (first | fail)
              have hE := BK.drew (BK.set (BK.set (BK.set HRb.out (j := 0) (by simp) (.string nm)) (j := 1) (by simp) (.int .i64 D)) (j := 2) (by simp) (.slice ao ns.length cu))
              have HBW := Lib.hid (show Below w.heap.size w (World.drew (World.setCell (World.setCell (World.setCell wb ⟨w.heap.size, 0, none⟩ (.string nm)) ⟨w.heap.size, 1, none⟩ (.int .i64 D)) ⟨w.heap.size, 2, none⟩ (.slice ao ns.length cu))) from Below.drew (Below.setCell (Below.setCell (Below.setCell HWb.out (Nat.le_refl _) _) (Nat.le_refl _) _) (Nat.le_refl _) _))
              have HGR := Lib.hid (show World.grownBy wb (World.setCell (World.setCell (World.setCell wb ⟨w.heap.size, 0, none⟩ (.string nm)) ⟨w.heap.size, 1, none⟩ (.int .i64 D)) ⟨w.heap.size, 2, none⟩ (.slice ao ns.length cu)) (some w.heap.size) from (grown_trans (grown_trans (grown_setCell wb ⟨w.heap.size, 0, none⟩ (.string nm)) (grown_setCell _ ⟨w.heap.size, 1, none⟩ (.int .i64 D))) (grown_setCell _ ⟨w.heap.size, 2, none⟩ (.slice ao ns.length cu))))
              have HU6 := Lib.hid (GO.drew (GO.kept_offT HUb.out HGR.out (by omega)))
              simp at hE
              have hce := hE.cells
              go_wp2_with fail
              (try simp only [Exit.inBlock, Exit.then])
              exact bodyPost_ret (by simp [results, Try.results64, go_sem, hce]; try rfl) rfl ⟨⟨nm, D, _, a7, rfl, ns, by rw [HF.out]; rfl, GO.down HU6.out (by omega), HALL.out⟩, HBW.out⟩
            · have HF := Lib.hid (show Q = none by rw [HQ3.out, if_neg (fun hh => hx hh.2)])
              have et : tx (storeB nm D (ns.map (cn .f32))) ≠ T.extract 0 a7 := fun e => hx (tx_inj (e.trans HX.out))
              have e3 := str_neT et
              generalize tx (storeB nm D (ns.map (cn .f32))) = st at *
              clear et hx HX hok HQ2 HQ3 HSB
              go_wp2_with (refine wpList_storeAgg (us := [.string ⟨#[]⟩, .int .i64 0, .slice none 0 0]) (storeSd _ _ _ _ _ _ _) rfl rfl (by simp [Value.oneCell']) HRb.out (by simp) ?_; intro W hE hO hL hZ hG; have HWz := Lib.hid (hL _ _ HWb.out (by omega)); simp [setsAt] at hE; have hce := hE.cells; clear hO hL hG)
              (try simp only [Exit.inBlock, Exit.then])
              exact bodyPost_ret (by simp [results, Try.results64, go_sem, hce]; try rfl) rfl ⟨⟨⟨#[]⟩, 0, .slice none 0 0, 0, rfl, [], by rw [HF.out]; rfl, GO.nil _ _ _, by simp⟩, HWz.out⟩
  · have HF := Lib.hid (HQ.out.trans (if_neg hm))
    have e1 : ¬ (tx m0).toList = [83, 69, 82, 49] := by rw [ByteArray.toList_eq, tx_data]; exact hm
    have e2 : ((tx m0).toList == [83, 69, 82, 49]) = false := beq_eq_false_iff_ne.2 e1
    clear hm HQ
    generalize tx m0 = t0 at *
    go_wp2_with (refine wpList_storeAgg (us := [.string ⟨#[]⟩, .int .i64 0, .slice none 0 0]) (storeSd _ _ _ _ _ _ _) rfl rfl (by simp [Value.oneCell']) HR2.out (by simp) ?_; intro W hE hO hL hZ hG; have HW := Lib.hid (hL _ _ HW2.out (by omega)); simp [setsAt] at hE; have hce := hE.cells; clear hO hL hG)
    (try simp only [Exit.inBlock, Exit.then])
    exact bodyPost_ret (by simp [results, Try.results64, go_sem, hce]; try rfl) rfl ⟨⟨⟨#[]⟩, 0, .slice none 0 0, 0, rfl, [], by rw [HF.out]; rfl, GO.nil _ _ _, by simp⟩, HW.out⟩

end Go.Proofs.Ytfckfdaloamkdaa
