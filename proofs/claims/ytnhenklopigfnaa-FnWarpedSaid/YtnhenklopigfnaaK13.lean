/- Contracts: drifts. -/
import Derived.Test.YtnhenklopigfnaaK8
import Derived.Test.YtnhenklopigfnaaTrk
import Derived.Deep.QuietTactic
import Derived.BigQuiet
namespace Go.Proofs.Ytnhenklopigfnaa
set_option linter.unusedSimpArgs false
set_option linter.unusedVariables false
set_option maxRecDepth 100000
set_option maxHeartbeats 4000000
open Go.RowKit
attribute [local go_sem] run_store_float run_store_complex alloc_drewN setCell_drewN

theorem SB.get {w : World} {v : Value} {cs : List Nat} (h : SB w v cs) {n : Nat} (hn : cs.length = n) : ∃ ao c, v = .slice ao n c ∧ n ≤ c ∧ c ≤ 9223372036854775807 ∧ ∀ i, i < n → ∃ b off r, ao = some ⟨b, off, none⟩ ∧ b < w.heap.size ∧ w.cell? ⟨b, off + i, none⟩ = some (.float .f32 r) ∧ r < 4294967296 ∧ cn .f32 r = cs.getD i 0 := by
  obtain ⟨ao, c, xs, rfl, rfl, h3, h5, h4⟩ := h
  have hn' : xs.length = n := by simpa using hn
  subst hn'
  refine ⟨ao, c, rfl, h3.1, h3.2, fun i hi => ?_⟩
  obtain ⟨b, off, e1, e2, e3⟩ := h4 i hi
  exact ⟨b, off, xs[i], e1, e2, e3, h5 _ (List.getElem_mem hi), by simp [hi]⟩

/-- What a drift becomes with a number. -/
def dRaw (down : Bool) (cm ck s x : Nat) : Nat := if down then subF (subF (addF s cm) x) ck else subF (subF (addF s x) cm) ck
def dStep (down : Bool) (cm ck s x : Nat) : Nat := if fc .lss .f32 (dRaw down cm ck s x) 0 then 0 else dRaw down cm ck s x
def dAt (down : Bool) (cm ck : Nat) (cs : List Nat) : Nat → Nat
  | 0 => 0
  | k + 1 => dStep down cm ck (dAt down cm ck cs k) (cs.getD k 0)
def dL (down : Bool) (cm ck : Nat) (cs : List Nat) (n : Nat) : List Nat := (List.range n).map fun i => dAt down cm ck cs (i + 1)
theorem dL_length (down : Bool) (cm ck : Nat) (cs : List Nat) (n : Nat) : (dL down cm ck cs n).length = n := by simp [dL]
theorem dL_succ (down : Bool) (cm ck : Nat) (cs : List Nat) (n : Nat) : dL down cm ck cs (n + 1) = dL down cm ck cs n ++ [dAt down cm ck cs (n + 1)] := by simp [dL, List.range_succ]
def driftOk (cs : List Nat) (cm ck : Nat) : Bool := series cs && fin cm && least ck
def driftQ (down : Bool) (cs : List Nat) (cm ck : Nat) : List Nat × Bool := if driftOk cs cm ck then given (dL down cm ck cs cs.length) else ([], false)
theorem driftQ_no (down : Bool) {cs : List Nat} {cm ck : Nat} (h : driftOk cs cm ck = false) : driftQ down cs cm ck = ([], false) := by rw [driftQ, h]; rfl
theorem driftQ_yes (down : Bool) {cs : List Nat} {cm ck : Nat} (h : driftOk cs cm ck = true) : driftQ down cs cm ck = given (dL down cm ck cs cs.length) := by rw [driftQ, h]; rfl


theorem i_isDrift (v : Value) (cs : List Nat) (m k : Nat) (w : World) (hv : SL w v cs) : Calls Try.prog 66 #[v, .float .f32 m, .float .f32 k] w fun e w' => e = .returned (.bool (driftOk cs (cn .f32 m) (cn .f32 k))) ∧ Below w.heap.size w w' := by
  go_enter Try.func66, Try.ntmps66
  go_wp2_with (first
    | (go_at_call 72; refine (i_IsSeries _ cs _ hv).mono ?_; rintro e w1 ⟨rfl, n1, rfl⟩)
    | (go_at_call 74; refine (i_IsFinite _ _).mono ?_; rintro e w2 ⟨rfl, n2, rfl⟩)
    | (go_at_call 71; refine (i_areNotLess _ ([k].map (cn .f32)) _ (by first | exact SL.lit _ [k] _ _ (by simp) rfl (by simp) | exact SL.drewN (SL.lit _ [k] _ _ (by simp) rfl (by simp)) _)).mono ?_; rintro z w3 ⟨rfl, n3, rfl⟩))
  all_goals
    go_ret
    refine ⟨ret_bool ?_, ?_⟩
  all_goals first | ((repeat (first | exact Below.refl _ _ | assumption | refine below_drewN ?_ _ | refine Below.drew ?_ | refine Below.alloc ?_ (by first | omega | (simp; omega) | (simp; done) | (simp at *; omega)) _ | refine Below.setCell ?_ (by first | omega | (simp; omega) | (simp; done) | (simp at *; omega)) _ | refine Below.trans ?_ (Below.mono (by assumption) (by first | omega | (simp; omega) | (simp; done) | (simp at *; omega))))); done) | (simp [driftOk, allLeast, *]; done) | (simp_all [driftOk, allLeast]; done) | trace_state

/-- A function value that reckons a number out of two, and reads what it has captured. -/
def Steps (F : Nat) (ps : Array Value) (B : Nat) (w : World) (g : Nat → Nat → Nat) : Prop :=
  ∀ s x w', s < 4294967296 → x < 4294967296 → Below B w w' → Calls Try.prog F (#[.float .f32 s, .float .f32 x] ++ ps) w' fun e w'' => (∃ r, e = .returned (.float .f32 r) ∧ r < 4294967296 ∧ cn .f32 r = g (cn .f32 s) (cn .f32 x)) ∧ Dr w' w''
def Enters2 (F : Nat) : Prop := ∀ (args : Array Value) (w : World), (callFunc F args).run Try.prog w = .ok (.enter F args) w
theorem Steps.at {F : Nat} {p q : Value} {B : Nat} {w : World} {g : Nat → Nat → Nat} (h : Steps F #[p, q] B w g) (s x : Nat) (w' : World) (hs : s < 4294967296) (hx : x < 4294967296) (hb : Below B w w') :
    Calls Try.prog F #[.float .f32 s, .float .f32 x, p, q] w' fun e w'' => (∃ r, e = .returned (.float .f32 r) ∧ r < 4294967296 ∧ cn .f32 r = g (cn .f32 s) (cn .f32 x)) ∧ Dr w' w'' := h s x w' hs hx hb
theorem i_drift (F : Nat) (p q : Value) (hE : Enters2 F) (v : Value) (cs : List Nat) (down : Bool) (cm ck : Nat) (w : World) (hv : SB w v cs) (hn : cs.length ≤ 96) (hF : Steps F #[p, q] w.heap.size w (dRaw down cm ck)) :
    Calls Try.prog 68 #[v, .func (.func F) #[] #[p, q]] w fun e w' => (∃ u, e = .returned u ∧ OW 27 w.heap.size w' u (dL down cm ck cs cs.length)) ∧ Below w.heap.size w w' := by
  obtain ⟨ao, c, rfl, hc1, hc2, hget⟩ := hv.get rfl
  have HGET := Lib.hid hget
  have HF := Lib.hid hF
  clear hget hF
  unfold Enters2 at hE
  go_enter Try.func68, Try.ntmps68
  go_wp2_with fail
  go_loopw [5, 6, 12] (fun v s i wr => ∃ k : Nat, k ≤ cs.length ∧ i = .int .i64 (k : Int) ∧ (∃ r, s = .float .f32 r ∧ r < 4294967296 ∧ Hid (cn .f32 r = dAt down cm ck cs k)) ∧ Hid (OW 27 w.heap.size wr v (dL down cm ck cs k)) ∧ Below w.heap.size w wr) (fun _ _ i _ => cs.length - (intOf i).toNat)
  case atStart => exact ⟨0, Nat.zero_le _, rfl, ⟨0, rfl, by omega, cn0⟩, (by show OW _ _ _ _ _; exact OW.empty _ _ rfl (Nat.le_refl _)), by (repeat (first | exact Below.refl _ _ | assumption | refine below_drewN ?_ _ | refine Below.drew ?_ | refine Below.alloc ?_ (by first | omega | (simp; omega) | (simp; done) | (simp at *; omega)) _ | refine Below.setCell ?_ (by first | omega | (simp; omega) | (simp; done) | (simp at *; omega)) _ | refine Below.trans ?_ (Below.mono (by assumption) (by first | omega | (simp; omega) | (simp; done) | (simp at *; omega)))))⟩
  case round =>
    obtain ⟨k, hk, rfl, ⟨r, rfl, hr, HR⟩, HO, hb⟩ := hrel
    have hz := hb.size
    by_cases hlt : k < cs.length
    · obtain ⟨b, off, x, rfl, hbl, hc, hx, hcx⟩ := HGET.out k hlt
      have hc' := (hb.cell (p := ⟨b, off + k, none⟩) hbl).trans hc
      have HX := Lib.hid hcx
      have HL := Lib.hid (show (dL down cm ck cs k).length < 1099511627776 by rw [dL_length]; omega)
      clear hc hcx
      cases hneg : fc .lss .f32 (dRaw down cm ck (cn .f32 r) (cn .f32 x)) 0
      all_goals
        have HN := Lib.hid hneg
        clear hneg
        go_wp2_with (first
          | ((with_reducible refine (Steps.at HF.out _ _ _ hr hx hb).mono ?_); rintro e w1 ⟨⟨r1, rfl, hr1, hr2⟩, n1, rfl⟩; have HR1 := Lib.hid hr2; clear hr2)
          | (refine wpList_fc .f32 _ _ rfl rfl rfl ?_; rw [HR1.out, cn0, HN.out])
          | (at_builtin; refine wpList_app1 f32s w.heap.size u5 _ rfl (by first | exact OW.drewN (OW.alloc HO.out _) _ | exact OW.alloc HO.out _) _ _ rfl (by simp; rfl) (by first | exact hr1 | omega) HL.out (by simp; omega) ?_; intro v' w' ho' hg'; have HO' := Lib.hid ho'; clear ho'))
        refine ⟨⟨k + 1, by omega, by go_num, ⟨_, rfl, by first | exact hr1 | omega, ?_⟩, ?_, ?_⟩, by simp [intOf]; omega⟩
      · show _ = dStep down cm ck _ _
        rw [HR1.out, dStep, ← HR.out, ← HX.out, HN.out]; rfl
      · show OW _ _ _ _ _
        have h1 := HO'.out
        rw [HR1.out] at h1
        rw [dL_succ]
        show OW _ _ _ _ (_ ++ [dStep down cm ck (dAt down cm ck cs k) (cs.getD k 0)])
        rw [dStep, ← HR.out, ← HX.out, HN.out]
        exact h1
      · refine below_of_grown ?_ hg' (by simp; omega) HO.out.own_ge
        (repeat (first | exact Below.refl _ _ | assumption | refine below_drewN ?_ _ | refine Below.drew ?_ | refine Below.alloc ?_ (by first | omega | (simp; omega) | (simp; done) | (simp at *; omega)) _ | refine Below.setCell ?_ (by first | omega | (simp; omega) | (simp; done) | (simp at *; omega)) _ | refine Below.trans ?_ (Below.mono (by assumption) (by first | omega | (simp; omega) | (simp; done) | (simp at *; omega)))))
      · show _ = dStep down cm ck _ _
        rw [dStep, ← HR.out, ← HX.out, HN.out]; exact cn0
      · show OW _ _ _ _ _
        have h1 := HO'.out
        rw [cn0] at h1
        rw [dL_succ]
        show OW _ _ _ _ (_ ++ [dStep down cm ck (dAt down cm ck cs k) (cs.getD k 0)])
        rw [dStep, ← HR.out, ← HX.out, HN.out]
        exact h1
      · refine below_of_grown ?_ hg' (by simp; omega) HO.out.own_ge
        (repeat (first | exact Below.refl _ _ | assumption | refine below_drewN ?_ _ | refine Below.drew ?_ | refine Below.alloc ?_ (by first | omega | (simp; omega) | (simp; done) | (simp at *; omega)) _ | refine Below.setCell ?_ (by first | omega | (simp; omega) | (simp; done) | (simp at *; omega)) _ | refine Below.trans ?_ (Below.mono (by assumption) (by first | omega | (simp; omega) | (simp; done) | (simp at *; omega)))))
    · go_wp2_with fail
      go_ret
      obtain rfl : k = cs.length := by omega
      exact ⟨⟨_, rfl, HO.out⟩, hb⟩


theorem f_Up1 (b b' B m k : Nat) (w : World) (hb : b < B) (hb' : b' < B) (hm : w.cell? ⟨b, 0, none⟩ = some (.float .f32 m)) (hk : w.cell? ⟨b', 0, none⟩ = some (.float .f32 k)) :
    Steps 69 #[.pointer (some ⟨b, 0, none⟩), .pointer (some ⟨b', 0, none⟩)] B w (dRaw false (cn .f32 m) (cn .f32 k)) := by
  intro s x w' hs hx hB
  have h1 := (hB.cell (p := ⟨b, 0, none⟩) hb).trans hm
  have h2 := (hB.cell (p := ⟨b', 0, none⟩) hb').trans hk
  clear hm hk
  show Calls Try.prog _ #[.float .f32 s, .float .f32 x, .pointer (some ⟨b, 0, none⟩), .pointer (some ⟨b', 0, none⟩)] w' _
  go_enter Try.func69, Try.ntmps69
  go_wp2_with (refine wpList_ar .f32 _ _ rfl rfl rfl ?_; intro r n hr hlt)
  go_ret
  refine ⟨⟨_, rfl, hlt, ?_⟩, Dr.mk _ _⟩
  simp [dRaw, addF, subF, *]
theorem i_DriftUp (v : Value) (cs : List Nat) (m k : Nat) (w : World) (hv : SB w v cs) :
    Calls Try.prog 14 #[v, .float .f32 m, .float .f32 k] w fun z w' => LB 27 w.heap.size w' z (driftQ false cs (cn .f32 m) (cn .f32 k)) ∧ Below w.heap.size w w' := by
  have HV := Lib.hid hv
  clear hv
  cases hok : driftOk cs (cn .f32 m) (cn .f32 k)
  all_goals
    have HOK := Lib.hid hok
    clear hok
  · go_enter Try.func14, Try.ntmps14
    go_wp2_with (go_at_call 66; refine (i_isDrift _ cs _ _ _ (SL.keep HV.out.sl (by (repeat (first | exact Below.refl _ _ | assumption | refine below_drewN ?_ _ | refine Below.drew ?_ | refine Below.alloc ?_ (by first | omega | (simp; omega) | (simp; done) | (simp at *; omega)) _ | refine Below.setCell ?_ (by first | omega | (simp; omega) | (simp; done) | (simp at *; omega)) _ | refine Below.trans ?_ (Below.mono (by assumption) (by first | omega | (simp; omega) | (simp; done) | (simp at *; omega)))))))).mono ?_; rintro e w1 ⟨rfl, hb1⟩; rw [HOK.out]; have hz1 := hb1.size; simp only [World.size_alloc] at hz1)
    go_ret2
    exact ⟨LB.no _ _ _ (driftQ_no _ HOK.out), by (repeat (first | exact Below.refl _ _ | assumption | refine below_drewN ?_ _ | refine Below.drew ?_ | refine Below.alloc ?_ (by first | omega | (simp; omega) | (simp; done) | (simp at *; omega)) _ | refine Below.setCell ?_ (by first | omega | (simp; omega) | (simp; done) | (simp at *; omega)) _ | refine Below.trans ?_ (Below.mono (by assumption) (by first | omega | (simp; omega) | (simp; done) | (simp at *; omega)))))⟩
  · have hlen := (series_len (show series cs = true by have h := HOK.out; simp only [driftOk, Bool.and_eq_true] at h; exact h.1.1)).2
    go_enter Try.func14, Try.ntmps14
    go_wp2_with (first
      | (go_at_call 66; refine (i_isDrift _ cs _ _ _ (SL.keep HV.out.sl (by (repeat (first | exact Below.refl _ _ | assumption | refine below_drewN ?_ _ | refine Below.drew ?_ | refine Below.alloc ?_ (by first | omega | (simp; omega) | (simp; done) | (simp at *; omega)) _ | refine Below.setCell ?_ (by first | omega | (simp; omega) | (simp; done) | (simp at *; omega)) _ | refine Below.trans ?_ (Below.mono (by assumption) (by first | omega | (simp; omega) | (simp; done) | (simp at *; omega)))))))).mono ?_; rintro e w1 ⟨rfl, hb1⟩; rw [HOK.out]; have hz1 := hb1.size; (try simp only [World.size_alloc, World.size_drew, World.heap_drewN, World.size_setCell] at hz1); have hp1 : w.heap.size + 2 ≤ w1.heap.size := (by omega); obtain ⟨hc1, hf1⟩ := bcellN (N := w.heap.size + 2) hb1 (by first | omega | (simp; done) | (simp; omega)))
      | (go_at_call 68; go_loud ((have hs : Steps 69 #[.pointer (some ⟨w.heap.size, 0, none⟩), .pointer (some ⟨w.heap.size + 1, 0, none⟩)] w1.heap.size w1 (dRaw false (cn .f32 m) (cn .f32 k)) := (f_Up1 _ _ _ m k w1 (by omega) (by omega) ((hc1 w.heap.size 0 (by omega)).trans (by go_simp)) ((hc1 (w.heap.size + 1) 0 (by omega)).trans (by go_simp)))); refine (i_drift 69 _ _ (fun _ _ => by kernel_rfl) _ cs false (cn .f32 m) (cn .f32 k) _ (SB.keep HV.out (by (repeat (first | exact Below.refl _ _ | assumption | refine below_drewN ?_ _ | refine Below.drew ?_ | refine Below.alloc ?_ (by first | omega | (simp; omega) | (simp; done) | (simp at *; omega)) _ | refine Below.setCell ?_ (by first | omega | (simp; omega) | (simp; done) | (simp at *; omega)) _ | refine Below.trans ?_ (Below.mono (by assumption) (by first | omega | (simp; omega) | (simp; done) | (simp at *; omega))))))) hlen hs).mono ?_; rintro e w2 ⟨⟨u, rfl, hu⟩, hb2⟩; have HU := Lib.hid hu; have hz2 := hb2.size; clear hu hs))
      | (go_at_call 67; refine (i_ifAll _ _ _ HU.out.sb.sl).mono ?_; rintro z w3 ⟨⟨u', q', rfl, hu, hq⟩, n3, rfl⟩; have HU2 := Lib.hid hu; have HQ2 := Lib.hid hq; clear hu hq))
    go_ret2
    exact ⟨LB.given (OW.drewN (HU.out.down (by omega)) _) HU2.out HQ2.out (driftQ_yes _ HOK.out), by (repeat (first | exact Below.refl _ _ | assumption | refine below_drewN ?_ _ | refine Below.drew ?_ | refine Below.alloc ?_ (by first | omega | (simp; omega) | (simp; done) | (simp at *; omega)) _ | refine Below.setCell ?_ (by first | omega | (simp; omega) | (simp; done) | (simp at *; omega)) _ | refine Below.trans ?_ (Below.mono (by assumption) (by first | omega | (simp; omega) | (simp; done) | (simp at *; omega)))))⟩

theorem f_Down1 (b b' B m k : Nat) (w : World) (hb : b < B) (hb' : b' < B) (hm : w.cell? ⟨b, 0, none⟩ = some (.float .f32 m)) (hk : w.cell? ⟨b', 0, none⟩ = some (.float .f32 k)) :
    Steps 70 #[.pointer (some ⟨b, 0, none⟩), .pointer (some ⟨b', 0, none⟩)] B w (dRaw true (cn .f32 m) (cn .f32 k)) := by
  intro s x w' hs hx hB
  have h1 := (hB.cell (p := ⟨b, 0, none⟩) hb).trans hm
  have h2 := (hB.cell (p := ⟨b', 0, none⟩) hb').trans hk
  clear hm hk
  show Calls Try.prog _ #[.float .f32 s, .float .f32 x, .pointer (some ⟨b, 0, none⟩), .pointer (some ⟨b', 0, none⟩)] w' _
  go_enter Try.func70, Try.ntmps70
  go_wp2_with (refine wpList_ar .f32 _ _ rfl rfl rfl ?_; intro r n hr hlt)
  go_ret
  refine ⟨⟨_, rfl, hlt, ?_⟩, Dr.mk _ _⟩
  simp [dRaw, addF, subF, *]
theorem i_DriftDown (v : Value) (cs : List Nat) (m k : Nat) (w : World) (hv : SB w v cs) :
    Calls Try.prog 15 #[v, .float .f32 m, .float .f32 k] w fun z w' => LB 27 w.heap.size w' z (driftQ true cs (cn .f32 m) (cn .f32 k)) ∧ Below w.heap.size w w' := by
  have HV := Lib.hid hv
  clear hv
  cases hok : driftOk cs (cn .f32 m) (cn .f32 k)
  all_goals
    have HOK := Lib.hid hok
    clear hok
  · go_enter Try.func15, Try.ntmps15
    go_wp2_with (go_at_call 66; refine (i_isDrift _ cs _ _ _ (SL.keep HV.out.sl (by (repeat (first | exact Below.refl _ _ | assumption | refine below_drewN ?_ _ | refine Below.drew ?_ | refine Below.alloc ?_ (by first | omega | (simp; omega) | (simp; done) | (simp at *; omega)) _ | refine Below.setCell ?_ (by first | omega | (simp; omega) | (simp; done) | (simp at *; omega)) _ | refine Below.trans ?_ (Below.mono (by assumption) (by first | omega | (simp; omega) | (simp; done) | (simp at *; omega)))))))).mono ?_; rintro e w1 ⟨rfl, hb1⟩; rw [HOK.out]; have hz1 := hb1.size; simp only [World.size_alloc] at hz1)
    go_ret2
    exact ⟨LB.no _ _ _ (driftQ_no _ HOK.out), by (repeat (first | exact Below.refl _ _ | assumption | refine below_drewN ?_ _ | refine Below.drew ?_ | refine Below.alloc ?_ (by first | omega | (simp; omega) | (simp; done) | (simp at *; omega)) _ | refine Below.setCell ?_ (by first | omega | (simp; omega) | (simp; done) | (simp at *; omega)) _ | refine Below.trans ?_ (Below.mono (by assumption) (by first | omega | (simp; omega) | (simp; done) | (simp at *; omega)))))⟩
  · have hlen := (series_len (show series cs = true by have h := HOK.out; simp only [driftOk, Bool.and_eq_true] at h; exact h.1.1)).2
    go_enter Try.func15, Try.ntmps15
    go_wp2_with (first
      | (go_at_call 66; refine (i_isDrift _ cs _ _ _ (SL.keep HV.out.sl (by (repeat (first | exact Below.refl _ _ | assumption | refine below_drewN ?_ _ | refine Below.drew ?_ | refine Below.alloc ?_ (by first | omega | (simp; omega) | (simp; done) | (simp at *; omega)) _ | refine Below.setCell ?_ (by first | omega | (simp; omega) | (simp; done) | (simp at *; omega)) _ | refine Below.trans ?_ (Below.mono (by assumption) (by first | omega | (simp; omega) | (simp; done) | (simp at *; omega)))))))).mono ?_; rintro e w1 ⟨rfl, hb1⟩; rw [HOK.out]; have hz1 := hb1.size; (try simp only [World.size_alloc, World.size_drew, World.heap_drewN, World.size_setCell] at hz1); have hp1 : w.heap.size + 2 ≤ w1.heap.size := (by omega); obtain ⟨hc1, hf1⟩ := bcellN (N := w.heap.size + 2) hb1 (by first | omega | (simp; done) | (simp; omega)))
      | (go_at_call 68; go_loud ((have hs : Steps 70 #[.pointer (some ⟨w.heap.size, 0, none⟩), .pointer (some ⟨w.heap.size + 1, 0, none⟩)] w1.heap.size w1 (dRaw true (cn .f32 m) (cn .f32 k)) := (f_Down1 _ _ _ m k w1 (by omega) (by omega) ((hc1 w.heap.size 0 (by omega)).trans (by go_simp)) ((hc1 (w.heap.size + 1) 0 (by omega)).trans (by go_simp)))); refine (i_drift 70 _ _ (fun _ _ => by kernel_rfl) _ cs true (cn .f32 m) (cn .f32 k) _ (SB.keep HV.out (by (repeat (first | exact Below.refl _ _ | assumption | refine below_drewN ?_ _ | refine Below.drew ?_ | refine Below.alloc ?_ (by first | omega | (simp; omega) | (simp; done) | (simp at *; omega)) _ | refine Below.setCell ?_ (by first | omega | (simp; omega) | (simp; done) | (simp at *; omega)) _ | refine Below.trans ?_ (Below.mono (by assumption) (by first | omega | (simp; omega) | (simp; done) | (simp at *; omega))))))) hlen hs).mono ?_; rintro e w2 ⟨⟨u, rfl, hu⟩, hb2⟩; have HU := Lib.hid hu; have hz2 := hb2.size; clear hu hs))
      | (go_at_call 67; refine (i_ifAll _ _ _ HU.out.sb.sl).mono ?_; rintro z w3 ⟨⟨u', q', rfl, hu, hq⟩, n3, rfl⟩; have HU2 := Lib.hid hu; have HQ2 := Lib.hid hq; clear hu hq))
    go_ret2
    exact ⟨LB.given (OW.drewN (HU.out.down (by omega)) _) HU2.out HQ2.out (driftQ_yes _ HOK.out), by (repeat (first | exact Below.refl _ _ | assumption | refine below_drewN ?_ _ | refine Below.drew ?_ | refine Below.alloc ?_ (by first | omega | (simp; omega) | (simp; done) | (simp at *; omega)) _ | refine Below.setCell ?_ (by first | omega | (simp; omega) | (simp; done) | (simp at *; omega)) _ | refine Below.trans ?_ (Below.mono (by assumption) (by first | omega | (simp; omega) | (simp; done) | (simp at *; omega)))))⟩

end Go.Proofs.Ytnhenklopigfnaa
