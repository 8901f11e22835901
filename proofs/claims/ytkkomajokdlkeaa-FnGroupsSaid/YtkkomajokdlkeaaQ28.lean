/- Contracts: groups that are joined, by the program, where all are there (for FnGroups). -/
import Derived.BigRegion
import Derived.Lib.QuietBelow
import Derived.Deep.CutRange
import Derived.Test.YtkkomajokdlkeaaQ2
import Derived.Test.YtkkomajokdlkeaaQ23
import Derived.Test.YtkkomajokdlkeaaQ24
import Derived.Test.YtkkomajokdlkeaaQ26
import Derived.Test.YtkkomajokdlkeaaQ27
namespace Go.Proofs.Ytkkomajokdlkeaa
set_option linter.unusedSimpArgs false
set_option linter.unusedVariables false
set_option maxRecDepth 100000
set_option maxHeartbeats 4000000
open Go.RowKit
attribute [local go_sem] run_store_float run_store_complex alloc_drewN setCell_drewN
/-- A list of series, and how far they are apart. -/
structure TH (css : List (List Nat)) (n : Nat) (D : Nat → Nat → Nat) : Prop where
  len : css.length = n
  n2 : 2 ≤ n
  n16 : n ≤ 16
  ok : listOk css = true
  far : ∀ i k, i < n → k < n → farQ (rowL css i) (rowL css k) = (D i k, true)
  farL : ∀ i k, i < n → k < n → farL (rowL css i) (rowL css k) = D i k
  fin : ∀ i k, i < n → k < n → D i k < 2139095040
  sym : ∀ i k, i < n → k < n → D i k = D k i
theorem TH.lb {css : List (List Nat)} {n : Nat} {D : Nat → Nat → Nat} (h : TH css n D) (r : Nat) : LbOk (trN D n r).1 n := tr_lb D h.n16 r
theorem fkey_small {a : Nat} (h : a < 2139095040) : fkey a = (fV a : Int) := by unfold fkey; rw [if_pos (by omega)]
theorem small_notNaN {a : Nat} (h : a < 2139095040) : (S.read a).isNaN = false := by
  rw [read_fin (c := a) (by omega) (by omega)]; rfl
theorem ord_small {a b : Nat} (ha : a < 2139095040) (hb : b < 2139095040) : FloatKind.f32.format.order a b = some (if a < b then .lt else if a = b then .eq else .gt) := by
  show S.order a b = _
  rw [order_key (by omega) (by omega) (by omega) (by omega), fkey_small ha, fkey_small hb]
  rcases Nat.lt_trichotomy a b with h | h | h
  · rw [cmp_lt (by have := fV_lt h; omega), if_pos h]
  · subst h; rw [cmp_eq rfl, if_neg (by omega), if_pos rfl]
  · rw [cmp_gt (by have := fV_lt h; omega), if_neg (by omega), if_neg (by omega)]
/-- The first k numbers, and noughts. -/
def preI (n k : Nat) : List Int := (List.range k).map (fun i : Nat => (i : Int)) ++ List.replicate (n - k) 0
theorem preI_zero (n : Nat) : preI n 0 = List.replicate n 0 := by simp [preI]
theorem preI_length {n k : Nat} (h : k ≤ n) : (preI n k).length = n := by simp [preI]; omega
theorem preI_all (n : Nat) : preI n n = (List.range n).map (fun i : Nat => (i : Int)) := by simp [preI]
theorem preI_set {n k : Nat} (h : k < n) : (preI n k).set k (k : Int) = preI n (k + 1) := by
  unfold preI
  rw [List.set_append_right _ _ (by simp)]
  simp only [List.length_map, List.length_range, Nat.sub_self]
  rw [List.range_succ, List.map_append, List.append_assoc]
  congr 1
  rw [show n - k = (n - (k + 1)) + 1 by omega, List.replicate_succ]
  rfl
theorem sc_some {D : Nat → Nat → Nat} {gs : List Int} {n : Nat} (h : LbOk gs n) {i m : Nat} (hi : i < n) (hm : m ≤ n) {s : Nat × Int × Int} (hs : scIn D gs i (scN D gs n i) m = some s) : (∃ p q, p < n ∧ q < n ∧ s.1 = D p q) ∧ 0 ≤ s.2.1 ∧ 0 ≤ s.2.2 := by
  obtain ⟨⟨p, q, h1, h2, h3, h4, rfl⟩, -⟩ := (scIn_best h hi (scN_best (D := D) h i (by omega)) m hm).some_ s hs
  have := h.2.2 p (by omega)
  have := h.2.2 q h2
  refine ⟨⟨p, q, by omega, h2, rfl⟩, ?_, ?_⟩ <;> (unfold cdT; dsimp only; omega)
theorem GO.lbAt {T lo : Nat} {w : World} {v : Value} {gs : List Int} (h : GO (Value.int .i64) T lo w v gs) {G n c : Nat} (hv : v = .slice (some ⟨G, 0, none⟩) n c) {i : Nat} (hi : i < gs.length) : w.cell? ⟨G, i, none⟩ = some (.int .i64 (lb gs i)) ∧ w.frozen? ⟨G, i, none⟩ = false := by
  obtain ⟨g, cap, hv1, -, -, hc1, hf1, -⟩ := h.at_ hi
  rw [hv] at hv1
  injection hv1 with e1 _ _
  injection e1 with e1
  injection e1 with e1
  subst e1
  refine ⟨?_, hf1⟩
  rw [hc1]
  simp [lb, hi]
theorem BK.newAtT {n : Nat} (w : World) (vs : List Value) (T : TypeId) (hn : n = w.heap.size) : BK (w.alloc (.cells vs.toArray T)) n vs := by subst hn; exact BK.new w vs T
theorem GO.ne_goT {α β : Type} {inj : α → Value} {inj' : β → Value} {T T' b b' : Nat} {w : World} {u v : Value} {cs : List α} {xs : List β} (h : GO inj T b w u cs) (h' : GO inj' T' b' w v xs) (hne : T ≠ T') : u.ownBlock = none ∨ u.ownBlock ≠ v.ownBlock := by
  rcases h.2 with ⟨rfl, -⟩ | ⟨g, cap, cur, rfl, -, hg, -⟩
  · exact .inl rfl
  · rcases h'.2 with ⟨rfl, -⟩ | ⟨g2, cap2, cur2, rfl, -, hg2, -⟩
    · exact .inr (by simp [Value.ownBlock])
    · refine .inr fun e => ?_
      have e2 : g = g2 := by simpa [Value.ownBlock] using e
      subst e2
      rw [hg] at hg2
      simp only [Option.some.injEq, Obj.cells.injEq] at hg2
      exact hne hg2.2.1
theorem OW.ne_ow' {α : Type} {inj : α → Value} {T T' b b' : Nat} {w : World} {u v : Value} {cs : List Nat} {xs : List α} (h : OW T b w u cs) (h' : GO inj T' b' w v xs) (hne : T ≠ T') : v.ownBlock = none ∨ v.ownBlock ≠ u.ownBlock := GO.ne_ow h h' hne
theorem BK.grownT {w w' : World} {p : Nat} {vs : List Value} {row : Option Nat} (h : BK w p vs) (hg : w.grownBy w' row) (hne : row ≠ some p) : BK w' p vs :=
  ⟨Nat.lt_of_lt_of_le h.lt hg.size, fun i hi => (World.cell?_of_block (a := ⟨p, i, none⟩) (hg.block p h.lt (Ne.symm hne))).trans (h.cells i hi), fun i => (World.frozen?_of_block (a := ⟨p, i, none⟩) (hg.block p h.lt (Ne.symm hne))).trans (h.fro i)⟩
theorem two_cellsT (w : World) (x y : Int) (T : TypeId) : ∀ i u, [x, y][i]? = some u → (w.alloc (.cells #[.int .i64 x, .int .i64 y] T)).cell? ⟨w.heap.size, i, none⟩ = some (.int .i64 u) := by
  intro i u hu
  rw [World.cell?_alloc_new]
  match i, hu with
  | 0, hu => simp at hu; subst hu; rfl
  | 1, hu => simp at hu; subst hu; rfl
  | i + 2, hu => simp at hu
/-- The labels, the first q of them turned. -/
def relP (gs : List Int) (a b : Int) (q : Nat) : List Int := (rel gs a b).take q ++ gs.drop q
theorem rel_length (gs : List Int) (a b : Int) : (rel gs a b).length = gs.length := by simp [rel]
theorem relP_zero (gs : List Int) (a b : Int) : relP gs a b 0 = gs := by simp [relP]
theorem relP_length (gs : List Int) (a b : Int) (q : Nat) : (relP gs a b q).length = gs.length := by simp [relP, rel_length]; omega
theorem relP_all (gs : List Int) (a b : Int) {q : Nat} (h : gs.length = q) : relP gs a b q = rel gs a b := by
  rw [relP, List.take_of_length_le (by rw [rel_length]; omega), List.drop_eq_nil_of_le (by omega), List.append_nil]
theorem relP_at {gs : List Int} {a b : Int} {q : Nat} (h : q < gs.length) : lb (relP gs a b q) q = lb gs q := by
  have hl : ((rel gs a b).take q).length = q := by rw [List.length_take, rel_length]; omega
  rw [lb, lb, relP, List.getD_eq_getElem?_getD, List.getElem?_append_right (by omega), hl, Nat.sub_self, List.getElem?_drop, Nat.add_zero, ← List.getD_eq_getElem?_getD]
theorem relP_set {gs : List Int} {a b : Int} {q : Nat} (h : q < gs.length) : (relP gs a b q).set q (if lb gs q = b then a else lb gs q) = relP gs a b (q + 1) := by
  have hl : ((rel gs a b).take q).length = q := by rw [List.length_take, rel_length]; omega
  rw [relP, relP, List.set_append_right _ _ (by omega), hl, Nat.sub_self, List.take_add_one, List.append_assoc]
  congr 1
  have e1 : (rel gs a b)[q]? = some (if gs[q] = b then a else gs[q]) := by simp [rel, h]
  have e2 : lb gs q = gs[q] := by simp [lb, h]
  rw [e1, e2, List.drop_eq_getElem_cons h]
  rfl
theorem relP_keep {gs : List Int} {a b : Int} {q : Nat} (h : q < gs.length) (hb : lb gs q ≠ b) : relP gs a b q = relP gs a b (q + 1) := by
  rw [← relP_set h, if_neg hb]
  have e := relP_at (a := a) (b := b) h
  have hl : q < (relP gs a b q).length := by rw [relP_length]; exact h
  refine List.ext_getElem (by simp) fun i h1 h2 => ?_
  by_cases hi : i = q
  · subst hi
    rw [List.getElem_set_self, ← e]
    simp [lb, hl]
  · rw [List.getElem_set_ne (Ne.symm hi)]
theorem tr_next (D : Nat → Nat → Nat) (n r : Nat) : trN D n (r + 1) = (rel (trN D n r).1 (outT (scN D (trN D n r).1 n n)).2.1 (outT (scN D (trN D n r).1 n n)).2.2, (trN D n r).2.1 ++ [(outT (scN D (trN D n r).1 n n)).2.1, (outT (scN D (trN D n r).1 n n)).2.2], (trN D n r).2.2 ++ [(outT (scN D (trN D n r).1 n n)).1]) := rfl
theorem tr_len (D : Nat → Nat → Nat) (n : Nat) : ∀ r, (trN D n r).2.1.length = 2 * r ∧ (trN D n r).2.2.length = r
  | 0 => ⟨rfl, rfl⟩
  | r + 1 => by
    obtain ⟨h1, h2⟩ := tr_len D n r
    rw [tr_next]
    simp only [List.length_append, List.length_cons, List.length_nil, h1, h2]
    exact ⟨by omega, trivial⟩
theorem scN_small {D : Nat → Nat → Nat} {gs : List Int} {n : Nat} (h : LbOk gs n) (hD : ∀ i k, i < n → k < n → D i k < 2139095040) : (outT (scN D gs n n)).1 < 2139095040 := by
  cases hs : scN D gs n n with
  | none => show (0 : Nat) < _; omega
  | some s =>
    obtain ⟨⟨p, q, h1, h2, h3, h4, rfl⟩, -⟩ := (scN_best (D := D) h n (Nat.le_refl _)).some_ s hs
    exact hD p q (by omega) h2
/-- One more pair. -/
structure ScStep (sn : Bst) (f dv : Nat) (a b pa pb : Int) : Prop where
  same : pa = pb → outT sn = (f, a, b)
  ways : ¬ pa = pb → ∃ q : Bool, (
    (a < 0 ∧ q = true) ∨
    (¬ a < 0 ∧ FloatKind.f32.format.order dv f = some .lt ∧ q = true) ∨
    (¬ a < 0 ∧ FloatKind.f32.format.order dv f = some .eq ∧ pa < a ∧ q = true) ∨
    (¬ a < 0 ∧ FloatKind.f32.format.order dv f = some .eq ∧ ¬ pa < a ∧ (pa == a) = true ∧ pb < b ∧ q = true) ∨
    (¬ a < 0 ∧ FloatKind.f32.format.order dv f = some .eq ∧ ¬ pa < a ∧ (pa == a) = true ∧ ¬ pb < b ∧ q = false) ∨
    (¬ a < 0 ∧ FloatKind.f32.format.order dv f = some .eq ∧ ¬ pa < a ∧ (pa == a) = false ∧ q = false) ∨
    (¬ a < 0 ∧ FloatKind.f32.format.order dv f = some .gt ∧ q = false)) ∧ Hid (outT sn = if q then (dv, pa, pb) else (f, a, b))
theorem scStep {D : Nat → Nat → Nat} {gs : List Int} {n i m : Nat} (h : LbOk gs n) (hi : i < n) (hm : m < n) (him : i + 1 ≤ m) {f : Nat} {a b : Int} (hf : outT (scIn D gs i (scN D gs n i) m) = (f, a, b)) {dv : Nat} (hdv : dv = D i m) {pa pb : Int} (hpa : pa = min (lb gs i) (lb gs m)) (hpb : pb = max (lb gs i) (lb gs m)) (hD : ∀ i k, i < n → k < n → D i k < 2139095040) : ScStep (scIn D gs i (scN D gs n i) (m + 1)) f dv a b pa pb := by
  have hs := fun s => sc_some h (D := D) hi (Nat.le_of_lt hm) (s := s)
  have hN : scIn D gs i (scN D gs n i) (m + 1) = if i < m ∧ lb gs i ≠ lb gs m then updT (scIn D gs i (scN D gs n i) m) (cdT D gs i m) else scIn D gs i (scN D gs n i) m := rfl
  have hc : cdT D gs i m = (dv, pa, pb) := by rw [cdT, hdv, hpa, hpb]
  rw [hc] at hN
  have hd : dv < 2139095040 := by rw [hdv]; exact hD i m hi hm
  generalize scIn D gs i (scN D gs n i) (m + 1) = sn at *
  generalize scIn D gs i (scN D gs n i) m = sm at *
  refine ⟨fun hp => ?_, fun hp => ?_⟩
  · rw [if_neg (fun h => h.2 (by omega))] at hN
    rw [hN, hf]
  · rw [if_pos ⟨by omega, by omega⟩] at hN
    cases sm with
    | none =>
      have e : outT (none : Bst) = (0, -1, -1) := rfl
      rw [e] at hf
      injection hf with e1 e2
      injection e2 with e2 e3
      exact ⟨true, .inl ⟨by omega, rfl⟩, Lib.hid (by rw [hN]; rfl)⟩
    | some s =>
      obtain ⟨⟨p, q, h1, h2, h3⟩, h4, h5⟩ := hs s rfl
      have e : outT (some s : Bst) = s := rfl
      rw [e] at hf
      subst hf
      dsimp only at h3 h4 h5
      have hff : f < 2139095040 := by rw [h3]; exact hD p q h1 h2
      have ho := ord_small hd hff
      have hu : updT (some (f, a, b)) (dv, pa, pb) = if dv < f ∨ (dv = f ∧ (pa < a ∨ (pa = a ∧ pb < b))) then some (dv, pa, pb) else some (f, a, b) := rfl
      rw [hu] at hN
      have hna : ¬ a < 0 := by omega
      rcases Nat.lt_trichotomy dv f with g | g | g
      · rw [if_pos g] at ho
        rw [if_pos (.inl g)] at hN
        exact ⟨true, .inr (.inl ⟨hna, ho, rfl⟩), Lib.hid (by rw [hN]; rfl)⟩
      · rw [if_neg (by omega), if_pos g] at ho
        by_cases g1 : pa < a
        · rw [if_pos (.inr ⟨g, .inl g1⟩)] at hN
          exact ⟨true, .inr (.inr (.inl ⟨hna, ho, g1, rfl⟩)), Lib.hid (by rw [hN]; rfl)⟩
        · by_cases g2 : pa = a
          · by_cases g3 : pb < b
            · rw [if_pos (.inr ⟨g, .inr ⟨g2, g3⟩⟩)] at hN
              exact ⟨true, .inr (.inr (.inr (.inl ⟨hna, ho, g1, by simpa using g2, g3, rfl⟩))), Lib.hid (by rw [hN]; rfl)⟩
            · rw [if_neg (by omega)] at hN
              exact ⟨false, .inr (.inr (.inr (.inr (.inl ⟨hna, ho, g1, by simpa using g2, g3, rfl⟩)))), Lib.hid (by rw [hN]; rfl)⟩
          · rw [if_neg (by omega)] at hN
            exact ⟨false, .inr (.inr (.inr (.inr (.inr (.inl ⟨hna, ho, g1, by simpa using g2, rfl⟩))))), Lib.hid (by rw [hN]; rfl)⟩
      · rw [if_neg (by omega), if_neg (by omega)] at ho
        rw [if_neg (by omega)] at hN
        exact ⟨false, .inr (.inr (.inr (.inr (.inr (.inr ⟨hna, ho, rfl⟩))))), Lib.hid (by rw [hN]; rfl)⟩

theorem oneIntR : OneC Try.prog 80 3 (.int .i64 0) 8 := oneC_of Try.underlying80 (by kernel_rfl) rfl (by decide)
theorem oneI64T : OneC Try.prog 28 2 (.int .i64 0) 8 := oneC_of Try.underlying28 (by kernel_rfl) rfl (by decide)
theorem storeT2 (p j : Nat) (a b : Int) : ∀ w, (Instr.storeAt 81 (.pointer (some ⟨p, j, none⟩)) (.agg [.int .i64 a, .int .i64 b].toArray)).run Try.prog w = (storeCells ⟨p, j, none⟩ [.int .i64 a, .int .i64 b] 0).run Try.prog w := by intro w; go_simp
set_option maxHeartbeats 60000000 in
theorem i_TreeOfShapes (v : Value) (css : List (List Nat)) (n : Nat) (D : Nat → Nat → Nat) (w : World) (hv : SS w v css) (h : TH css n D) :
    Calls Try.prog 15 #[v] w fun e w' => (∃ u x, e = .returned (.tuple #[u, x, .bool true]) ∧ GO (Value.int .i64) 2 w.heap.size w' u (trN D n (n - 1)).2.1 ∧ OW 33 w.heap.size w' x (trN D n (n - 1)).2.2) ∧ Below w.heap.size w w' := by
  have H := Lib.hid h
  have hn2 := h.n2
  have hn16 := h.n16
  obtain ⟨ao, c, rfl, hc1, hc2, hget⟩ := hv.get h.len
  have HV := Lib.hid hv
  obtain ⟨b0, off0, u0, e0, hbl0, -, -⟩ := hget 0 (by omega)
  subst e0
  have HC := Lib.hid (show ∀ i, i < n → ∃ y, ∀ w', Below w.heap.size w w' → w'.cell? ⟨b0, off0 + i, none⟩ = some y ∧ SB w' y (rowL css i) from by
    intro i hi
    obtain ⟨b, off, y, e1, hbl, hc, hs⟩ := hget i hi
    simp only [Option.some.injEq, Addr.mk.injEq, and_true] at e1
    obtain ⟨rfl, rfl⟩ := e1
    exact ⟨y, fun w' h => ⟨(h.cell (p := ⟨b0, off0 + i, none⟩) hbl).trans hc, hs.keep h⟩⟩)
  clear hget h hv
  have h2n : ¬ (n : Int) < 2 := by omega
  go_enter Try.func15, Try.ntmps15
  go_wp2_with fail
  refine (i_areShapes _ css _ HV.out).mono ?_; rintro e w1 ⟨rfl, hb1⟩
  rw [H.out.ok]
  have hz1 := hb1.size
  have hn0 : n < 1099511627776 := by omega
  go_wp2_with (refine wpList_gmake (inj := Value.int .i64) oneIntR (0 : Int) rfl n rfl rfl hn0 ?_; intro w2 ho hg; have HO2 := Lib.hid ho; have HG2 := Lib.hid hg; clear ho hg)
  have hb2 : Below w.heap.size w w2 := below_of_grown hb1 HG2.out hz1 (by intro k hk; cases hk)
  obtain ⟨G, hG⟩ : ∃ G, G = w1.heap.size := ⟨_, rfl⟩
  rw [← hG] at HO2 ⊢
  have hGw : w.heap.size ≤ G := by omega
  have HGD := Lib.hid (show GO (Value.int .i64) 3 w.heap.size w2 (.slice (some ⟨G, 0, none⟩) n n) (preI n 0) from by rw [preI_zero]; exact HO2.out.down hGw)
  clear HO2 hG hb1 hz1
  go_loopw [33] (fun i wr => ∃ k : Nat, k ≤ n ∧ i = .int .i64 (k : Int) ∧ Hid (GO (Value.int .i64) 3 w.heap.size wr (.slice (some ⟨G, 0, none⟩) n n) (preI n k)) ∧ Below w.heap.size w wr) (fun i _ => n - (intOf i).toNat)
  case atStart => exact ⟨0, Nat.zero_le _, rfl, HGD, hb2⟩
  case round =>
    obtain ⟨k, hk, rfl, HG, hb⟩ := hrel
    have hz := hb.size
    by_cases hlt : k < n
    · obtain ⟨g, cap, hv1, hg1, hg2, hc1, hf1, hs1⟩ := HG.out.at_ (k := k) (by rw [preI_length hk]; exact hlt)
      simp only [Value.slice.injEq, Option.some.injEq, Addr.mk.injEq, and_true] at hv1
      obtain ⟨rfl, -⟩ := hv1
      have hki : (k : Int) < (n : Int) := by omega
      have hk0 : 0 ≤ (k : Int) := by omega
      have hkn : ((k : Int)).toNat = k := by omega
      obtain ⟨h3, h4⟩ := hs1 (k : Int)
      rw [preI_set hlt] at h3
      have H3 := Lib.hid h3
      have hb' : Below w.heap.size w (wr.setCell ⟨G, k, none⟩ (.int .i64 (k : Int))) := below_of_grown hb h4 hz (by intro q hq; injection hq with hq; omega)
      clear hs1 h3 h4
      go_wp2_with fail
      exact ⟨⟨k + 1, by omega, by go_num, H3, hb'⟩, by simp [intOf]; omega⟩
    · obtain rfl : k = n := by omega
      have HG0 := Lib.hid (show GO (Value.int .i64) 3 w.heap.size wr (.slice (some ⟨G, 0, none⟩) k k) (trN D k 0).1 from by have := HG.out; rw [preI_all] at this; exact this)
      obtain ⟨wq, hwq⟩ : ∃ wq, wq = wr := ⟨_, rfl⟩
      subst hwq
      clear HG HGD hb2
      have hsb : IntKind.i64.wrap ((k : Int) - 1) = (k : Int) - 1 := by rw [IntKind.wrap_i64]; omega
      go_wp2_with fail
      go_loopw [45, 8, 9] (fun i u x wr => ∃ r : Nat, r ≤ k - 1 ∧ i = .int .i64 (r : Int) ∧ Hid (GO (Value.int .i64) 2 w.heap.size wr u (trN D k r).2.1) ∧ Hid (OW 33 w.heap.size wr x (trN D k r).2.2) ∧ Hid (GO (Value.int .i64) 3 w.heap.size wr (.slice (some ⟨G, 0, none⟩) k k) (trN D k r).1) ∧ Below w.heap.size w wr) (fun i _ _ _ => k - 1 - (intOf i).toNat)
      case atStart => exact ⟨0, Nat.zero_le _, rfl, GO.alloc (GO.lit (Value.int .i64) 2 w.heap.size wq [] hz (by simp)) _, OW.empty _ _ (by simp) (by simp; omega), GO.alloc (GO.alloc HG0.out _) _, Below.alloc (Below.alloc hb hz _) (by simp; omega) _⟩
      case round =>
        obtain ⟨r, hr, rfl, HP, HF, HG, hbr⟩ := hrel
        have hzr := hbr.size
        clear hb hz HG0
        obtain ⟨wo, hwo⟩ : ∃ wo, wo = wr := ⟨_, rfl⟩
        subst hwo
        by_cases hlt : r < k - 1
        · have hri : (r : Int) < (k : Int) - 1 := by omega
          have hgl : LbOk (trN D k r).1 k := H.out.lb r
          obtain ⟨gs, hgs⟩ : ∃ gs, gs = (trN D k r).1 := ⟨_, rfl⟩
          rw [← hgs] at HG hgl
          have HGS := Lib.hid hgs
          have HGL := Lib.hid hgl
          have hgn : gs.length = k := hgl.1
          clear hgs hgl
          go_wp2_with fail
          go_loopw [49, 11] (fun i l wr => ∃ (j f : Nat) (a b : Int), j ≤ k ∧ i = .int .i64 (j : Int) ∧ Hid (outT (scN D gs k j) = (f, a, b)) ∧ l = .float .f32 f ∧ Hid (BK wr wo.heap.size [.int .i64 a, .int .i64 b]) ∧ Below wo.heap.size wo wr) (fun i _ _ => k - (intOf i).toNat)
          case atStart => exact ⟨0, 0, -1, -1, Nat.zero_le _, rfl, Lib.hid rfl, rfl, BK.newAtT _ _ _ rfl, Below.alloc (Below.refl _ _) (Nat.le_refl _) _⟩
          case round =>
            obtain ⟨i, f, a, b, hi, rfl, HFAB0, rfl, HB, hbi⟩ := hrel
            obtain ⟨wi, hwi⟩ : ∃ wi, wi = wr := ⟨_, rfl⟩
            subst hwi
            by_cases hlti : i < k
            · have hii : (i : Int) < (k : Int) := by omega
              have hi0 : 0 ≤ (i : Int) := by omega
              have hin : ((i : Int)).toNat = i := by omega
              have hi1 : IntKind.i64.wrap ((i : Int) + 1) = ((i + 1 : Nat) : Int) := by rw [IntKind.wrap_i64]; omega
              go_wp2_with fail
              go_loopw [13, 11] (fun kv l wr => ∃ (m f : Nat) (a b : Int), i + 1 ≤ m ∧ m ≤ k ∧ kv = .int .i64 (m : Int) ∧ Hid (outT (scIn D gs i (scN D gs k i) m) = (f, a, b)) ∧ l = .float .f32 f ∧ Hid (BK wr wo.heap.size [.int .i64 a, .int .i64 b]) ∧ Below wo.heap.size wo wr) (fun kv _ _ => k - (intOf kv).toNat)
              case atStart => exact ⟨i + 1, _, _, _, Nat.le_refl _, by omega, by first | rfl | go_num, (by rw [scIn_first _ _ _ _ _ (Nat.le_refl _)]; exact HFAB0), rfl, HB, hbi⟩
              case round =>
                obtain ⟨m, f, a, b, hm1, hm2, rfl, HFAB, rfl, HB1, hbm⟩ := hrel
                clear HB hbi
                by_cases hltm : m < k
                · as_aux_lemma =>
                    have hmi : (m : Int) < (k : Int) := by omega
                    have hm0 : 0 ≤ (m : Int) := by omega
                    have hmn : ((m : Int)).toNat = m := by omega
                    have hms : IntKind.i64.wrap ((m : Int) + 1) = (m : Int) + 1 := by rw [IntKind.wrap_i64]; omega
                    have hzm := hbm.size
                    have hbw : Below w.heap.size w wr := hbr.trans (hbm.mono hzr)
                    have hzw := hbw.size
                    obtain ⟨dv, hdv⟩ : ∃ dv, dv = D i m := ⟨_, rfl⟩
                    obtain ⟨pa, hpa⟩ : ∃ pa, pa = min (lb gs i) (lb gs m) := ⟨_, rfl⟩
                    obtain ⟨pb, hpb⟩ : ∃ pb, pb = max (lb gs i) (lb gs m) := ⟨_, rfl⟩
                    have hpa2 : (if lb gs m < lb gs i then lb gs m else lb gs i) = pa := by rw [hpa]; split <;> omega
                    have hpb2 : (if lb gs i < lb gs m then lb gs m else lb gs i) = pb := by rw [hpb]; split <;> omega
                    have HST := Lib.hid (scStep (D := D) HGL.out hlti hltm hm1 HFAB.out hdv hpa hpb H.out.fin)
                    have HPA := Lib.hid hpa2
                    have HPB := Lib.hid hpb2
                    have hfar : farQ (rowL css i) (rowL css m) = (dv, true) := by rw [hdv]; exact H.out.far i m hlti hltm
                    have hdn : dv < 2139095040 := by rw [hdv]; exact H.out.fin i m hlti hltm
                    clear hpa2 hpb2 hpa hpb hdv HFAB
                    obtain ⟨yi, hyi⟩ := HC.out i hlti
                    obtain ⟨ym, hym⟩ := HC.out m hltm
                    have cA := fun d os => Calls.regrown_of (d := d) (os := os) (w := wr) (i_FarV _ _ _ _ _ _ (hyi _ (hbw.trans ((below_regrown wr d os).mono hzw))).2 (hym _ (hbw.trans ((below_regrown wr d os).mono hzw))).2 hfar (small_notNaN hdn))
                    have r0 := (hyi _ hbw).1
                    have r1 := (hym _ hbw).1
                    have hcr0 := fun d os => cell_regrown r0 d os
                    have hcr1 := fun d os => cell_regrown r1 d os
                    go_wp2_with fail
                    refine wp_region_quiet_below (by kernel_rfl) (by kernel_rfl) ?_
                    repeat (quiet_step (first | exact cA _ _))
                    refine wpQuiet_nil ?_
                    intro w5 hw'
                    obtain ⟨⟨dd, osq⟩, hw''⟩ := hw'
                    have hbz := below_regrown wr dd osq
                    rw [← hw''] at hbz
                    clear hw'' cA hcr0 hcr1 r0 r1 hyi hym hfar
                    have HB5 := Lib.hid (HB1.out.keep hbz)
                    have hb5 := hbm.trans (hbz.mono hzm)
                    have hz5 := hb5.size
                    have hG5 := HG.out.keep hb5
                    have hGlt : G < w5.heap.size := (hG5.block G rfl).2
                    have hgi := (hG5.lbAt rfl (i := i) (by omega)).1
                    have hgm := (hG5.lbAt rfl (i := m) (by omega)).1
                    have hgia := fun o => ((GO.alloc hG5 o).lbAt rfl (i := i) (by omega)).1
                    have hgma := fun o => ((GO.alloc hG5 o).lbAt rfl (i := m) (by omega)).1
                    have hlb5 := HB5.out.lt
                    clear hG5 HB1 hbm hbz hbw
                    go_wp2_with fail
                    go_region
                    rw [HPA.out, HPB.out]
                    clear hgi hgm hgia hgma hGlt HPA HPB
                    obtain ⟨w6, hw6⟩ : ∃ w6, w6 = (w5.alloc (.cells #[.int .i64 pa, .int .i64 pb] 81)).drew := ⟨_, rfl⟩
                    have hp6 : BK w6 w5.heap.size [.int .i64 pa, .int .i64 pb] := by rw [hw6]; exact BK.drew (BK.newAtT w5 [.int .i64 pa, .int .i64 pb] _ rfl)
                    have HB6 := Lib.hid (show BK w6 wo.heap.size [.int .i64 a, .int .i64 b] from by rw [hw6]; exact BK.drew (HB5.out.alloc (.cells #[.int .i64 pa, .int .i64 pb] 81)))
                    have hb6 : Below wo.heap.size wo w6 := by rw [hw6]; exact Below.drew (Below.alloc hb5 (by omega) _)
                    rw [← hw6]
                    have hb5n : wo.heap.size ≠ w5.heap.size := by omega
                    have hc0 : w6.cell? ⟨wo.heap.size, 0, none⟩ = some (.int .i64 a) := HB6.out.at rfl
                    have hc1' : w6.cell? ⟨wo.heap.size, 1, none⟩ = some (.int .i64 b) := HB6.out.at rfl
                    have hd0 : w6.cell? ⟨w5.heap.size, 0, none⟩ = some (.int .i64 pa) := hp6.at rfl
                    have hd1 : w6.cell? ⟨w5.heap.size, 1, none⟩ = some (.int .i64 pb) := hp6.at rfl
                    clear HB5 hb5 hz5 hp6 hw6 hdn
                    by_cases hp : pa = pb
                    · have hpe : (pa == pb) = true := by simpa using hp
                      have HN := Lib.hid (HST.out.same hp)
                      clear HST hc1'
                      go_wp2_with fail
                      exact ⟨⟨m + 1, f, a, b, by omega, by omega, by go_num, HN.out, rfl, HB6, hb6⟩, by simp [intOf]; omega⟩
                    · have hpe : (pa == pb) = false := by simpa using hp
                      obtain ⟨q, HC6, HN⟩ := HST.out.ways hp
                      clear HST
                      go_upto_region 25 with fail
                      go_cut [130] from 97 to 130 (fun v W => v = .bool q ∧ W = w6)
                      case first =>
                        clear HN HB6 hb6
                        rcases HC6 with HC6 | HC6 | HC6 | HC6 | HC6 | HC6 | HC6
                        · obtain ⟨hx1, rfl⟩ := HC6
                          go_wp2_with fail
                          go_meet
                          exact ⟨rfl, rfl⟩
                        · obtain ⟨hx1, hx2, rfl⟩ := HC6
                          go_wp2_with fail
                          go_meet
                          exact ⟨rfl, rfl⟩
                        · obtain ⟨hx1, hx2, hx3, rfl⟩ := HC6
                          go_wp2_with fail
                          go_meet
                          exact ⟨rfl, rfl⟩
                        · obtain ⟨hx1, hx2, hx3, hx4, hx5, rfl⟩ := HC6
                          go_wp2_with fail
                          go_meet
                          exact ⟨rfl, rfl⟩
                        · obtain ⟨hx1, hx2, hx3, hx4, hx5, rfl⟩ := HC6
                          go_wp2_with fail
                          go_meet
                          exact ⟨rfl, rfl⟩
                        · obtain ⟨hx1, hx2, hx3, hx4, rfl⟩ := HC6
                          go_wp2_with fail
                          go_meet
                          exact ⟨rfl, rfl⟩
                        · obtain ⟨hx1, hx2, rfl⟩ := HC6
                          go_wp2_with fail
                          go_meet
                          exact ⟨rfl, rfl⟩
                      case rest =>
                        clear HC6
                        obtain ⟨rfl, rfl⟩ := hcut
                        cases q with
                        | true =>
                          rw [if_pos rfl] at HN
                          go_wp2_with (show wpList _ _ _ ({ dst := none, op := .store 81 _ _, type := _, pos := _, after := _, guard := none } :: _) _ _; refine wpList_storeAgg (us := [.int .i64 pa, .int .i64 pb]) (storeT2 _ _ _ _) rfl rfl (by simp [Value.oneCell']) HB6.out (by simp) ?_; intro W hBW hOW hLW hZW hGW)
                          exact ⟨⟨m + 1, dv, pa, pb, by omega, by omega, by go_num, HN, rfl, Lib.hid hBW, hLW _ _ hb6 (Nat.le_refl _)⟩, by simp [intOf]; omega⟩
                        | false =>
                          rw [if_neg (by decide)] at HN
                          go_wp2_with fail
                          exact ⟨⟨m + 1, f, a, b, by omega, by omega, by go_num, HN, rfl, HB6, hb6⟩, by simp [intOf]; omega⟩
                · obtain rfl : m = k := by omega
                  have hmi : ¬ ((m : Int) < (m : Int)) := by omega
                  go_wp2_with fail
                  exact ⟨⟨i + 1, f, a, b, by omega, by go_num, HFAB, rfl, HB1, hbm⟩, by simp [intOf]; omega⟩
            · as_aux_lemma =>
                obtain rfl : i = k := by omega
                have hii : ¬ ((i : Int) < (i : Int)) := by omega
                have hbw : Below w.heap.size w wi := hbr.trans (hbi.mono hzr)
                have hzi := hbi.size
                have hzw := hbw.size
                have hTR := tr_next D i r
                rw [← HGS.out] at hTR
                have hsm := scN_small HGL.out H.out.fin
                have HP1 := Lib.hid (HP.out.keep hbi)
                have HF1 := Lib.hid (HF.out.keep hbi)
                have HG1 := Lib.hid (HG.out.keep hbi)
                have hPlt := HP.out.block
                have hFlt := HF.out.block
                have hGlt : G < wo.heap.size := (HG.out.block G rfl).2
                have ht := HFAB0.out
                rw [ht] at hTR hsm
                dsimp only at hTR hsm
                have HTR := Lib.hid hTR
                clear hTR HGS HP HF HG ht HFAB0
                have htl := tr_len D i r
                obtain ⟨P, hP⟩ : ∃ P, P = (trN D i r).2.1 := ⟨_, rfl⟩
                obtain ⟨F, hF⟩ : ∃ F, F = (trN D i r).2.2 := ⟨_, rfl⟩
                rw [← hP] at HP1 HTR htl
                rw [← hF] at HF1 HTR htl
                obtain ⟨hPl, hFl⟩ := htl
                have hcb := HB.out.cells
                have hlb := HB.out.lt
                clear hP hF
                go_wp2_with (at_builtin; refine Hid.out ?_)
                refine Lib.hid ?_
                refine wpList_gapp (inj := Value.int .i64) oneI64T (fun _ => rfl) w.heap.size u8 P rfl (GO.alloc HP1.out _) [a, b] _ 2 rfl rfl (by intro i u hu; exact two_cellsT _ _ _ _ i u hu) (by simp; omega) (by simp; omega) ?_
                intro u3 w3 hown3 hg3
                have HP3 := Lib.hid hown3
                have HF3 := Lib.hid (OW.kept (OW.alloc HF1.out _) hg3 (HF1.out.ne_go HP1.out (by decide)))
                have HG3 := Lib.hid (GO.kept (GO.alloc HG1.out _) hg3 (HG1.out.ne_goT HP1.out (by decide)))
                have HB3 := Lib.hid (BK.grownT (BK.alloc HB.out _) hg3 (fun e => by have := hPlt _ e; omega))
                have hb3 : Below w.heap.size w w3 := below_of_grown (Below.alloc hbw hzw _) hg3 (by simp; omega) (fun k e => (hPlt k e).1)
                have hz3 := hb3.size
                have hg3s : wi.heap.size + 1 ≤ w3.heap.size := by have := hg3.size; simpa using this
                have hPlt3 := hown3.block
                clear hown3 hg3 HB HP1 HF1 HG1 hcb hlb
                have hcf : cn .f32 f = f := cn_of_not (small_notNaN hsm)
                go_wp2_with (at_builtin; refine Hid.out ?_)
                refine Lib.hid ?_
                refine wpList_app1 f32s w.heap.size u9 F rfl (OW.alloc HF3.out _) _ f rfl (by simp) (by omega) (by omega) (by simp; omega) ?_
                intro x4 w4 hown4 hg4
                rw [hcf] at hown4
                have HF4 := Lib.hid hown4
                have HP4 := Lib.hid (GO.kept (GO.alloc HP3.out _) hg4 (HF3.out.ne_ow' HP3.out (by decide)))
                have HG4 := Lib.hid (GO.kept (GO.alloc HG3.out _) hg4 (HF3.out.ne_ow' HG3.out (by decide)))
                have HB4 := Lib.hid (BK.grownT (BK.alloc HB3.out _) hg4 (fun e => by have := hFlt _ e; omega))
                have hb4 : Below w.heap.size w w4 := below_of_grown (Below.alloc hb3 hz3 _) hg4 (by simp; omega) HF3.out.own_ge
                have hz4 := hb4.size
                clear hown4 hg4 HB3 HP3 HF3 HG3
                have hGB : G ≠ wo.heap.size := by omega
                have hG4 : G < w4.heap.size := (HG4.out.block G rfl).2
                go_wp2_with fail
                go_loopw [147] (fun qv wr => ∃ q : Nat, q ≤ i ∧ qv = .int .i64 (q : Int) ∧ Hid (GO (Value.int .i64) 3 w.heap.size wr (.slice (some ⟨G, 0, none⟩) i i) (relP gs a b q)) ∧ Hid (w4.grownBy wr (some G))) (fun qv _ => i - (intOf qv).toNat)
                case atStart => exact ⟨0, Nat.zero_le _, rfl, (by rw [relP_zero]; exact HG4), grown_of_below (Below.refl _ _) _⟩
                case round =>
                  obtain ⟨q, hq, rfl, HGq, HBq⟩ := hrel
                  have HBB := Lib.hid (BK.grownT HB4.out HBq.out (fun e => by injection e with e; exact hGB e))
                  have hcb := HBB.out.cells
                  have hlb := HBB.out.lt
                  by_cases hltq : q < i
                  · have hqi : (q : Int) < (i : Int) := by omega
                    have hq0 : 0 ≤ (q : Int) := by omega
                    have hqn : ((q : Int)).toNat = q := by omega
                    have hqs : q < gs.length := by omega
                    have hqs2 : q < (relP gs a b q).length := by rw [relP_length]; exact hqs
                    obtain ⟨hcq, hfq⟩ := HGq.out.lbAt rfl hqs2
                    rw [relP_at hqs] at hcq
                    by_cases he : lb gs q = b
                    · obtain ⟨g, cap, hv1, -, -, -, -, hs1⟩ := HGq.out.at_ hqs2
                      simp only [Value.slice.injEq, Option.some.injEq, Addr.mk.injEq, and_true] at hv1
                      obtain ⟨rfl, -⟩ := hv1
                      obtain ⟨h3, h4⟩ := hs1 a
                      have hset := relP_set (a := a) (b := b) hqs
                      rw [if_pos he] at hset
                      rw [hset] at h3
                      have HG5 := Lib.hid h3
                      have HB5 := Lib.hid (grown_transW HBq.out h4)
                      clear hs1 h3 h4 hset
                      rw [he] at hcq
                      go_wp2_with fail
                      exact ⟨⟨q + 1, by omega, by go_num, HG5, HB5⟩, by simp [intOf]; omega⟩
                    · have HG5 := Lib.hid (show GO (Value.int .i64) 3 w.heap.size wr (.slice (some ⟨G, 0, none⟩) i i) (relP gs a b (q + 1)) from by rw [← relP_keep hqs he]; exact HGq.out)
                      have hne : (lb gs q == b) = false := by simpa using he
                      go_wp2_with fail
                      exact ⟨⟨q + 1, by omega, by go_num, HG5, HBq⟩, by simp [intOf]; omega⟩
                  · obtain rfl : q = i := by omega
                    have hqi : ¬ ((q : Int) < (q : Int)) := by omega
                    have hb5 : Below w.heap.size w wr := below_of_grown hb4 HBq.out hz4 (fun k e => by injection e with e; omega)
                    have HP5 := Lib.hid (GO.kept HP4.out HBq.out (HP4.out.ne_goT HG4.out (by decide)))
                    have HF5 := Lib.hid (OW.kept HF4.out HBq.out (HF4.out.ne_go HG4.out (by decide)))
                    have HG5 := HGq.out
                    rw [relP_all gs a b hgn] at HG5
                    have hrr : IntKind.i64.wrap ((r : Int) + 1) = (r : Int) + 1 := by rw [IntKind.wrap_i64]; omega
                    go_wp2_with fail
                    exact ⟨⟨r + 1, by omega, by go_num, by rw [HTR.out]; exact HP5, by rw [HTR.out]; exact HF5, by rw [HTR.out]; exact Lib.hid HG5, hb5⟩, by simp [intOf]; omega⟩
        · obtain rfl : r = k - 1 := by omega
          have hri : ¬ (((k - 1 : Nat) : Int) < (k : Int) - 1) := by omega
          go_wp2_with fail
          go_ret3
          exact ⟨⟨_, _, rfl, HP.out, HF.out⟩, hbr⟩

end Go.Proofs.Ytkkomajokdlkeaa
