/- THE LAW FnStoredOfAll: whatever is stored is loaded as it was; of what is cut, or bent at a byte, all that lies ahead is recovered. -/
import Derived.Test.YtfckfdaloamkdaaLawKit
import Derived.Test.YtfckfdaloamkdaaRcl
import Derived.Test.YtfckfdaloamkdaaK139
import Derived.Lib.ConvBytes
import Derived.Laws.IdiomStrings
import Derived.Laws.Closers25b
namespace Go.Proofs.Ytfckfdaloamkdaa
set_option linter.unusedSimpArgs false
set_option linter.unusedVariables false
set_option maxRecDepth 100000
set_option maxHeartbeats 4000000
open Go.ChangeShapes Go.WideShapes Go.ChangeAt Go.RowKit Go.Deep
open Go.ChangeMaps (open_string)
attribute [local go_sem] run_store_float run_store_complex alloc_drewN setCell_drewN
theorem SVL.atE {w : World} {v : Value} {L : List Sd} (h : SVL w v L) : ∃ ao c, v = .slice ao L.length c ∧ L.length ≤ c ∧ c ≤ 9223372036854775807 ∧ ∀ i (hi : i < L.length), ∃ b off u, ao = some ⟨b, off, none⟩ ∧ b < w.heap.size ∧ w.cell? ⟨b, off + i * 3, none⟩ = some (.string L[i].1) ∧ w.cell? ⟨b, off + i * 3 + 1, none⟩ = some (.int .i64 L[i].2.1) ∧
      w.cell? ⟨b, off + i * 3 + 2, none⟩ = some u ∧ SB w u L[i].2.2 ∧ L[i].1.size ≤ 9223372036854775807 := by
  obtain ⟨ao, c, h1, h2, h3⟩ := h
  refine ⟨ao, c, h1, h2.1, h2.2, fun i hi => ?_⟩
  have e : L.getD i d0 = L[i] := by rw [List.getD_eq_getElem?_getD, List.getElem?_eq_getElem hi]; rfl
  rw [← e]
  exact h3 i hi
/-- Where the ones of a list end. -/
def endsL (L : List Sd) (k : Nat) : List Int := (List.range (k + 1)).map fun j => ((catB (L.take j)).length : Int)
theorem endsL_length (L : List Sd) (k : Nat) : (endsL L k).length = k + 1 := by simp [endsL]
theorem endsL_get (L : List Sd) (k : Nat) {j : Nat} (h : j < (endsL L k).length) : (endsL L k)[j] = ((catB (L.take j)).length : Int) := by simp [endsL]
theorem endsL_succ (L : List Sd) (k : Nat) : endsL L (k + 1) = endsL L k ++ [((catB (L.take (k + 1))).length : Int)] := by
  rw [endsL, List.range_succ, List.map_append]; rfl
theorem bytesWorld_belowR (w : World) (e : TypeId) (s : ByteArray) : Below w.heap.size w (Lib.bytesWorld w e s) := bytesWorld_below (Below.refl _ _) e s (Nat.le_refl _)
/-- A string's bytes in a slice of the call's own. -/
theorem wpList_bytes {P : Program} {ops : Array Oper} {rest : List Oper} {dst : Option Tmp} {x : Operand} {src dt e type : TypeId} {pos : String} {after : Array Edge} {a : Act} {w : World} {Q : Exit → Act → World → Prop} {u : TypeDesc} {s : ByteArray}
    (hs : P.underlying src = some u) (hd : P.underlying dt = some (.slice e)) (he : P.underlying e = some (.int .u8)) (hx : a.eval x = .string s)
    (h : ∀ cap w', s.size ≤ cap → Below w.heap.size w w' → w'.heap.size = w.heap.size + 1 → (∀ j, j < s.size → w'.cell? ⟨w.heap.size, j, none⟩ = some (.int .u8 (s.data.toList.getD j 0).toNat)) → (∀ j, j < s.size → w'.frozen? ⟨w.heap.size, j, none⟩ = false) → wpList P ops Q rest (a.put dst (.slice (some ⟨w.heap.size, 0, none⟩) s.size cap)) w') :
    wpList P ops Q ({ dst := dst, op := .convert src dt x, type := type, pos := pos, after := after, guard := none } :: rest) a w := by
  refine wpList_plain rfl fun K hK => ?_
  have hr := Lib.run_convert_string_bytes w src dt e s hs hd he
  unfold Oper.wp
  simp [execOp, hx, hr, Result.andThen]
  refine hK _ _ (h _ _ (grownCap_ge w s.size 0 e) (bytesWorld_belowR w e s) (Lib.bytesWorld_size w e s) (fun j hj => Lib.bytesWorld_cell w e s j hj) (fun j hj => ?_))
  simp [World.frozen?, Lib.bytesWorld_at_new, Lib.bytesCells]
  omega
/-- .. and back. -/
theorem wpList_string {P : Program} {ops : Array Oper} {rest : List Oper} {dst : Option Tmp} {x : Operand} {src dt e type : TypeId} {pos : String} {after : Array Edge} {a : Act} {w : World} {Q : Exit → Act → World → Prop} {b n cap : Nat} {l : List UInt8}
    (hs : P.underlying src = some (.slice e)) (he : P.underlying e = some (.int .u8)) (hd : P.underlying dt = some .string) (hx : a.eval x = .slice (some ⟨b, 0, none⟩) n cap) (hn : n = l.length)
    (hc : ∀ j (hj : j < l.length), w.cell? ⟨b, j, none⟩ = some (.int .u8 (l[j].toNat : Int)))
    (h : wpList P ops Q rest (a.put dst (.string (tx l))) w) :
    wpList P ops Q ({ dst := dst, op := .convert src dt x, type := type, pos := pos, after := after, guard := none } :: rest) a w := by
  refine wpList_plain rfl fun K hK => ?_
  have hr := run_convert_bytes_back w src dt e ⟨b, 0, none⟩ cap l hs he hd (fun j hj => by rw [Addr.add_lit, Nat.zero_add]; exact hc j hj)
  subst hn
  unfold Oper.wp
  simp [execOp, hx, hr, Result.andThen]
  exact hK _ _ h
theorem byte_xor (x b : Int) : ∃ y : UInt8, Value.int .u8 (bits .xor .u8 x b) = .int .u8 (y.toNat : Int) := by
  have h1 := bits_lo_u8 .xor x b
  have h2 := bits_hi_u8 .xor x b
  refine ⟨u8 (bits .xor .u8 x b), ?_⟩
  rw [u8_val, Int.emod_eq_of_lt h1 (by omega)]
theorem cells_of {w : World} {b : Nat} {s : ByteArray} {l : List UInt8} (h : s.data.toList = l) (hc : ∀ j, j < s.size → w.cell? ⟨b, j, none⟩ = some (.int .u8 (s.data.toList.getD j 0).toNat)) : ∀ j, j < l.length → w.cell? ⟨b, j, none⟩ = some (.int .u8 (l.getD j 0).toNat) := by
  subst h
  intro j hj
  exact hc j (by simpa using hj)
theorem set_cells {w : World} {b c : Nat} {l : List UInt8} {y : UInt8} {old v : Value} (hc : ∀ j, j < l.length → w.cell? ⟨b, j, none⟩ = some (.int .u8 (l.getD j 0).toNat)) (hcl : c < l.length) (hv : v = .int .u8 (y.toNat : Int)) (ho : w.cell? ⟨b, c, none⟩ = some old) :
    ∀ j (hj : j < (l.set c y).length), (w.setCell ⟨b, c, none⟩ v).cell? ⟨b, j, none⟩ = some (.int .u8 ((l.set c y)[j].toNat : Int)) := by
  intro j hj
  have hj2 : j < l.length := by rw [List.length_set] at hj; exact hj
  by_cases e : j = c
  · subst e
    rw [List.getElem_set_self, ← hv]
    exact World.cell?_setCell_same _ _ _ ho
  · rw [List.getElem_set_ne (Ne.symm e), World.cell?_setCell_other _ _ _ _ (by first | exact fun h => e (Addr.mk.inj h).2.1 | exact fun h => e (Addr.mk.inj h).2.1.symm), hc j hj2, List.getD_eq_getElem?_getD, List.getElem?_eq_getElem hj2]
    rfl
theorem rcA_whole {L : List Sd} (h : ∀ x ∈ L, okS x) (h8 : L.length ≤ 8) : rcA (catB L) 8 = (L, (catB L).length) := by
  have h1 := rcA_cat L [] 8 h h8
  rw [rcA_no lsQ_nil] at h1
  simpa using h1
theorem rcA_cutL {L : List Sd} (h : ∀ x ∈ L, okS x) (h8 : L.length ≤ 8) {j c : Nat} (hj : j < L.length) (h1 : (catB (L.take j)).length ≤ c) (h2 : c < (catB (L.take (j + 1))).length) : rcA ((catB L).take c) 8 = (L.take j, (catB (L.take j)).length) := by
  have hs := catB_split L (j + 1)
  have hl := catB_take_succ hj
  rw [hl, List.length_append] at h2
  have e : (catB L).take c = catB (L.take j) ++ (stB L[j]).take (c - (catB (L.take j)).length) := by
    rw [hs, hl, List.append_assoc, List.take_append, List.take_of_length_le h1, List.take_append_of_le_length (by omega)]
  have h3 := rcA_cat (L.take j) ((stB L[j]).take (c - (catB (L.take j)).length)) 8 (fun x hx => h x (List.mem_of_mem_take hx)) (by rw [List.length_take]; omega)
  rw [rcA_no (lsQ_cut (h _ (List.getElem_mem hj)) (by omega))] at h3
  rw [e, h3]
  simp
theorem rcA_bent {L : List Sd} (h : ∀ x ∈ L, okS x) (h8 : L.length ≤ 8) {j c : Nat} (hj : j < L.length) (h1 : (catB (L.take j)).length ≤ c) (y : UInt8) : j ≤ (rcA ((catB L).set c y) 8).1.length := by
  have hs := catB_split L j
  have e : (catB L).set c y = catB (L.take j) ++ (catB (L.drop j)).set (c - (catB (L.take j)).length) y := by rw [hs, List.set_append_right _ _ h1]
  have h3 := rcA_cat (L.take j) ((catB (L.drop j)).set (c - (catB (L.take j)).length) y) 8 (fun x hx => h x (List.mem_of_mem_take hx)) (by rw [List.length_take]; omega)
  rw [e, h3]
  simp only [List.length_append, List.length_take]
  omega

section
variable {H : Type} {enc : TypeId × Value → H} {w : World} {base : Nat} {spare : Nat → Bool} {held : Bool}
/-- A slice of what is saved, as a law takes it. -/
theorem open_savedSI {fuel : Nat} {v : Value} {x : DataW H × List MemPlace} (h : DataW.trod enc Try.prog w base spare held fuel 25 [v] = some x) : ∃ L, SVL w v L := by
  have hc3 : Program.cellsOf Try.prog 34 = 3 := by kernel_rfl
  rcases open_slice Try.underlying25 h with ⟨hv, _⟩ | ⟨a, len, cap, m, n, D, Pl, hv, hb, hl, hm, hmm, rfl, hx⟩
  · simp only [List.cons.injEq, and_true] at hv
    subst hv
    exact ⟨[], none, 0, rfl, by simp, fun i hi => by cases hi⟩
  · simp only [List.cons.injEq, and_true] at hv
    subst hv
    rw [hc3] at hx
    have hlm : len ≤ m := by rw [hmm]; split <;> omega
    have hE : ∀ i, i < len → ∃ (d : Sd) (u : Value), w.cell? (a.add (i * 3)) = some (.string d.1) ∧ w.cell? (a.add (i * 3 + 1)) = some (.int .i64 d.2.1) ∧ w.cell? (a.add (i * 3 + 2)) = some u ∧ SB w u d.2.2 ∧ d.1.size ≤ 9223372036854775807 := by
      intro i hi
      obtain ⟨cs', hc, ht⟩ := hx i (by omega)
      obtain ⟨_, hcl, hat⟩ := World.cells?_some hc
      match cs', hcl with
      | [c0, c1, c2], _ =>
        obtain ⟨n0, y0, z0⟩ := trod_at Try.underlying34 ht 0 _ rfl (T := 9) rfl (o := 0) rfl (k := 1) (by kernel_rfl) (l' := [c0]) rfl
        obtain ⟨n1, y1, z1⟩ := trod_at Try.underlying34 ht 1 _ rfl (T := 2) rfl (o := 1) rfl (k := 1) (by kernel_rfl) (l' := [c1]) rfl
        obtain ⟨n2, y2, z2⟩ := trod_at Try.underlying34 ht 2 _ rfl (T := 28) rfl (o := 2) rfl (k := 1) (by kernel_rfl) (l' := [c2]) rfl
        obtain ⟨s, e0, hs⟩ := trod_string' Try.underlying9 z0
        obtain ⟨d, e1, hd⟩ := trod_int' Try.underlying2 z1
        obtain ⟨cs, hcs⟩ := open_f32s Try.underlying28 Try.underlying54 (by kernel_rfl) z2
        simp only [List.cons.injEq, and_true] at e0 e1
        subst e0 e1
        have g0 := hat 0 (by omega)
        have g1 := hat 1 (by omega)
        have g2 := hat 2 (by omega)
        rw [Go.Deep.add_add] at g0 g1 g2
        exact ⟨(s, d, cs), c2, g0, g1, g2, hcs, hs⟩
    obtain ⟨f, hf⟩ := choose_lt (p := fun i (d : Sd) => ∃ u, w.cell? (a.add (i * 3)) = some (.string d.1) ∧ w.cell? (a.add (i * 3 + 1)) = some (.int .i64 d.2.1) ∧ w.cell? (a.add (i * 3 + 2)) = some u ∧ SB w u d.2.2 ∧ d.1.size ≤ 9223372036854775807) hE
    refine ⟨(List.range len).map f, some a, cap, by simp, ?_, fun i hi => ?_⟩
    · have : maxLen = 9223372036854775807 := rfl
      simp only [List.length_map, List.length_range]; omega
    · have hi' : i < len := by simpa using hi
      obtain ⟨u, g0, g1, g2, g3, g4⟩ := hf i hi'
      have hg : ((List.range len).map f).getD i d0 = f i := by simp [hi']
      rw [hg]
      obtain ⟨ab, aoff, aspot⟩ := a
      have hs : aspot = none := by
        obtain ⟨_, r0, _⟩ := hf 0 (by omega)
        simpa [Addr.add] using (cell_lt r0).2
      subst hs
      rw [Addr.add_lit] at g0 g1 g2
      exact ⟨ab, aoff, u, rfl, (cell_lt g0).1, g0, by rw [← g1]; congr 2, by rw [← g2]; congr 2, g3, g4⟩
end
theorem oneIntE : OneC Try.prog 47 3 (.int .i64 0) 8 := oneC_of Try.underlying47 (by kernel_rfl) rfl (by decide)
set_option maxRecDepth 100000 in
theorem FnStoredOfAll_walk {w : World} (v : Value) (L : List Sd) (hv : SVL w v L) (cut : Int) (hcut : (Lit.int .i64 cut).wf = true) (bit : Int) (hbit : (Lit.int .u8 bit).wf = true) :
    Calls Try.prog 8 #[v, .int .i64 cut, .int .u8 bit] w fun z w' => z = .returned (.bool true) ∧ Below w.heap.size w w' := by
  have HCN := Lib.hid (cnN_svl hv)
  have HV := Lib.hid hv
  obtain ⟨ao, c, rfl, hc1, hc2, hc⟩ := hv.atE
  have HC := Lib.hid hc
  clear hc hv
  by_cases hbig : 1000 < L.length
  · have hbi : (1000 : Int) < (L.length : Int) := by omega
    go_enter Try.func8, Try.ntmps8
    go_wp2_with fail
    go_ret
    exact ⟨rfl, Below.refl _ _⟩
  have hbi : ¬ (1000 : Int) < (L.length : Int) := by omega
  have HE0 := Lib.hid (show GO (Value.int .i64) 3 w.heap.size (w.alloc (.cells #[.int .i64 0] 3)) (.slice (some ⟨w.heap.size, 0, none⟩) 1 1) (endsL L 0) from GO.lit (Value.int .i64) 3 w.heap.size w (endsL L 0) (by simp [endsL, catB]) rfl (by simp [endsL]) (Nat.le_refl _) (by simp [endsL]))
  have HB0 := Lib.hid (show Below w.heap.size w (w.alloc (.cells #[.int .i64 0] 3)) from (Below.refl _ _).alloc (Nat.le_refl _) _)
  go_enter Try.func8, Try.ntmps8
  go_wp2_with fail
  go_loopw [8, 7] (fun i e wr => ∃ k : Nat, k ≤ L.length ∧ i = .int .i64 (k : Int) ∧ Hid (∀ j (hj : j < L.length), j < k → okS L[j]) ∧ Hid (GO (Value.int .i64) 3 w.heap.size wr e (endsL L k)) ∧ Hid (Below w.heap.size w wr)) (fun i _ _ => L.length - (intOf i).toNat)
  case atStart => exact ⟨0, Nat.zero_le _, rfl, Lib.hid (fun j hj h => by omega), HE0, HB0⟩
  case round =>
    clear HE0 HB0
    obtain ⟨k, hk, rfl, HOK, HE, HB⟩ := hrel
    have hsz := HB.out.size
    by_cases hlt : k < L.length
    · --DEV{
      have hki : (k : Int) < (L.length : Int) := by omega
      obtain ⟨b, off, u, rfl, hbl, g0, g1, g2, g3, g4⟩ := HC.out k hlt
      have hcn := HCN.out L[k] (List.getElem_mem hlt)
      have HX := Lib.hid (show ∀ h : savedOk L[k].1 L[k].2.1 L[k].2.2 = true, okS L[k] from fun h => ⟨h, hcn⟩)
      have HCS := Lib.hid (catB_take_succ hlt)
      obtain ⟨x, hx⟩ : ∃ x, x = L[k] := ⟨_, rfl⟩
      rw [← hx] at g0 g1 g3 g4 HX HCS
      have HXE := Lib.hid hx
      obtain ⟨s, d, cs⟩ := x
      clear hx hcn
      simp only at g0 g1 g3 g4
      have q0 := (HB.out.cell (p := ⟨b, off + k * 3, none⟩) hbl).trans g0
      have q1 := (HB.out.cell (p := ⟨b, off + k * 3 + 1, none⟩) hbl).trans g1
      have q2 := (HB.out.cell (p := ⟨b, off + k * 3 + 2, none⟩) hbl).trans g2
      have G3 := Lib.hid (g3.keep HB.out)
      clear g0 g1 g2 g3
      obtain ⟨uo, uc, rfl, hul⟩ := G3.out.slice
      have HI := Lib.hid (fun wv (h : Below wr.heap.size wr wv) => i_StoreSaved s g4 d _ cs wv (G3.out.keep h))
      have HSP := Lib.hid (fun wv (h : Below wr.heap.size wr wv) => s_StoreSaved s g4 d _ cs wv (G3.out.keep h))
      have HQ := Lib.hid (fun wv (h : Below wr.heap.size wr wv) => And.intro ((h.cell (p := ⟨b, off + k * 3, none⟩) (Nat.lt_of_lt_of_le hbl hsz)).trans q0) (And.intro ((h.cell (p := ⟨b, off + k * 3 + 1, none⟩) (Nat.lt_of_lt_of_le hbl hsz)).trans q1) ((h.cell (p := ⟨b, off + k * 3 + 2, none⟩) (Nat.lt_of_lt_of_le hbl hsz)).trans q2)))
      clear G3
      cases hok : savedOk s d cs with
      | false =>
        have e0 : storeQ s d cs false = (⟨#[]⟩, false) := rfl
        simp only [hok, e0] at HI HSP
        go_wp2_with fail
        refine (HI.out _ (Below.refl _ _)).mono ?_; rintro z w1 ⟨rfl, hb⟩
        have hw1 := hb
        have HB1 := Lib.hid (HB.out.trans (hb.mono hsz))
        obtain ⟨q0, q1, q2⟩ := HQ.out _ hb
        clear hb HI HB
        go_wp2_with fail
        refine (HSP.out _ hw1).mono ?_; rintro z w2 ⟨rfl, hb⟩
        have HB2 := Lib.hid (HB1.out.trans (hb.mono HB1.out.size))
        clear hb HB1 HSP hw1
        go_wp2_with fail
        go_ret
        exact ⟨rfl, HB2.out⟩
      | true =>
        have hx := HX.out hok
        have e0 : storeQ s d cs true = (tx (stB (s, d, cs)), true) := rfl
        have HLO := Lib.hid (loQ_stB hx)
        have HST := Lib.hid (show ∀ u w, SB w u cs → Calls Try.prog 22 #[.agg #[.string s, .int .i64 d, u]] w fun e w' => e = .returned (.tuple #[.string (tx (stB (s, d, cs))), .bool true]) ∧ Below w.heap.size w w' from fun u w hu => by
          have h := i_StoreSaved s g4 d u cs w hu
          rw [hok, e0] at h
          exact h)
        simp only [hok, e0] at HI HSP
        have hln := storeB_length s d cs
        obtain ⟨f1, -, -, f4⟩ := savedOk_facts hok
        have HLD := Lib.hid (fun w => i_LoadSaved (tx (stB (s, d, cs))) (by rw [tx_size]; show (storeB s d cs).length ≤ _; omega) w)
        simp only [HLO.out] at HLD
        have HEN := Lib.hid (show endsL L (k + 1) = endsL L k ++ [((catB (L.take k)).length : Int) + (((tx (stB (s, d, cs))).size : Nat) : Int)] by rw [endsL_succ, HCS.out, tx_size, List.length_append]; simp)
        have HLAST := Lib.hid (fun h => endsL_get L k (j := k) h)
        have HMC := Lib.hid (map_cn (fun n hn => hx.2 n hn))
        have hel := endsL_length L k
        have htz : (tx (stB (s, d, cs))).size ≤ 1000 := by rw [tx_size]; show (storeB s d cs).length ≤ _; omega
        have hcl : (catB (L.take k)).length ≤ 500 * 1000 := by
          have h1 := catB_len_le (L.take k) (fun y hy => by
            obtain ⟨i, hi, rfl⟩ := List.getElem_of_mem hy
            rw [List.getElem_take]
            rw [List.length_take] at hi
            exact HOK.out i (by omega) (by omega))
          rw [List.length_take] at h1
          have : 500 * min k L.length ≤ 500 * 1000 := Nat.mul_le_mul_left _ (by omega)
          omega
        have HOK2 := Lib.hid (show ∀ j (hj : j < L.length), j < k + 1 → okS L[j] from fun j hj h => by
          by_cases e : j = k
          · subst e; rw [← HXE.out]; exact hx
          · exact HOK.out j hj (by omega))
        generalize tx (stB (s, d, cs)) = bs at *
        generalize (catB (L.take k)).length = en at *
        clear hx HX HXE HOK hln HLO HCS f1 e0 hok
        go_wp2_with fail
        refine (HI.out _ (Below.refl _ _)).mono ?_; rintro z w1 ⟨rfl, hb⟩
        have hw1 := hb
        have HB1 := Lib.hid (HB.out.trans (hb.mono hsz))
        have HE1 := Lib.hid (HE.out.keep hb)
        obtain ⟨q0, q1, q2⟩ := HQ.out _ hb
        clear hb HI HB HE
        go_wp2_with fail
        refine (HSP.out _ hw1).mono ?_; rintro z w2 ⟨rfl, hb⟩
        have HB2 := Lib.hid (HB1.out.trans (hb.mono HB1.out.size))
        have HE2 := Lib.hid (HE1.out.keep hb)
        have hz2 := HB2.out.size
        clear hb HB1 HSP hw1 HE1 q0 q1 q2 HQ
        go_wp2_with fail
        refine (HLD.out _).mono ?_; rintro z w3 ⟨⟨s', d', u, rfl, ns, hq, ho, hlt3⟩, hb⟩
        have HB3 := Lib.hid (HB2.out.trans (hb.mono HB2.out.size))
        have HE3 := Lib.hid (HE2.out.keep hb)
        have hz3 := hb.size
        obtain ⟨rfl, rfl, rfl⟩ : s = s' ∧ d = d' ∧ cs = ns := by
          have h : (s, d, cs) = (s', d', ns) := hq
          injection h with e1 h; injection h with e2 e3
          exact ⟨e1, e2, e3⟩
        obtain ⟨uo2, uc2, rfl, hul2⟩ := ho.slice
        have HO := Lib.hid (GO.ow ho hlt3)
        have HO := Lib.hid (show OW 54 w2.heap.size w3 (.slice uo2 cs.length uc2) cs by have h := HO.out; rw [show cs.map (cn .f32) = cs from HMC.out] at h; exact h)
        clear hb ho hlt3 hq HB2 HE2 HLD HMC
        go_wp2_with (refine wpList_storeAgg (us := [.string s, .int .i64 d, .slice uo2 cs.length uc2]) (storeSd _ _ _ _ _ _ _) rfl rfl (by simp [Value.oneCell']) (BK.new _ [.string ⟨#[]⟩, .int .i64 0, .slice none 0 0] _) (by simp) ?_; intro w4 hE hO hL2 hZ hG; have hb2 := hL2 _ _ ((Below.refl w3.heap.size w3).alloc (Nat.le_refl _) _) (Nat.le_refl _); have HE4 := Lib.hid (HE3.out.keep hb2); have HO4 := Lib.hid (HO.out.keep hb2); have HB4 := Lib.hid (HB3.out.trans (hb2.mono HB3.out.size)); (try simp only [World.size_alloc] at hZ); simp [setsAt] at hE; have hs0 := hE.at (i := 0) rfl; have hs1 := hE.at (i := 1) rfl; have hs2 := hE.at (i := 2) rfl; clear hE hO hL2 hG HE3 HB3 HO hb2)
        refine (HST.out _ _ HO4.out.sb).mono ?_; rintro z w5 ⟨rfl, hb⟩
        have HB5 := Lib.hid (HB4.out.trans (hb.mono HB4.out.size))
        have HE5 := Lib.hid (HE4.out.keep hb)
        have hz5 := hb.size
        clear hb HB4 HE4 HO4 HST hs0 hs1 hs2
        obtain ⟨g, cap', hv1, hg1, hg2, hu0, -, -⟩ := HE5.out.at_ (k := k) (by omega)
        rw [hel] at hv1
        subst hv1
        rw [HLAST.out (by omega)] at hu0
        have j1 : IntKind.i64.wrap ((en : Int) + (bs.size : Int)) = (en : Int) + (bs.size : Int) := by rw [IntKind.wrap_i64]; omega
        have HB5s := HB5.out.size
        clear HLAST
        go_wp2_with (at_builtin; refine wpList_gapp (inj := Value.int .i64) oneIntE (fun _ => rfl) w.heap.size _ (endsL L k) rfl (GO.alloc HE5.out _) [(en : Int) + (bs.size : Int)] _ 1 rfl rfl (by intro i u hu; cases i with | zero => (simp only [List.getElem?_cons_zero, Option.some.injEq] at hu; subst hu; simp) | succ i => simp at hu) (by simp only [List.length_cons, List.length_nil]; omega) (by simp; omega) ?_; intro v2 w6 hown hg2; have HE6 := Lib.hid hown; have HB6 := Lib.hid (show Below w.heap.size w w6 from (HB5.out.alloc HB5.out.size _).grown hg2 (by simp; omega) HE5.out.own_ge); clear hown hg2 HE5 HB5)
        refine ⟨⟨k + 1, by omega, by go_num, HOK2, by rw [HEN.out]; exact HE6, HB6⟩, by simp [intOf]; omega⟩
      --DEV}
    · obtain rfl : k = L.length := by omega
      have HOKA := Lib.hid (show ∀ x ∈ L, okS x from fun x hx => by
        obtain ⟨i, hi, rfl⟩ := List.getElem_of_mem hx
        exact HOK.out i hi hi)
      have hki : ¬ ((L.length : Int) < (L.length : Int)) := by omega
      have HI := Lib.hid (fun wv (h : Below wr.heap.size wr wv) => i_StoreAll _ L wv ((HV.out.keep HB.out).keep h))
      have HSP := Lib.hid (fun wv (h : Below wr.heap.size wr wv) => s_StoreAll _ L wv ((HV.out.keep HB.out).keep h))
      clear HOK hlt hk HC HV hc1 hc2
      by_cases h8 : L.length ≤ 8
      case neg =>
        simp only [svAll_no h8] at HI HSP
        clear h8
        go_wp2_with fail
        refine (HI.out _ (Below.refl _ _)).mono ?_; rintro z w1 ⟨rfl, hb⟩
        have hw1 := hb
        have HB1 := Lib.hid (HB.out.trans (hb.mono hsz))
        clear hb HI HB
        go_wp2_with fail
        refine (HSP.out _ hw1).mono ?_; rintro z w2 ⟨rfl, hb⟩
        have HB2 := Lib.hid (HB1.out.trans (hb.mono HB1.out.size))
        clear hb HB1 HSP hw1
        go_wp2_with fail
        go_ret
        exact ⟨rfl, HB2.out⟩
      case pos =>
        have hsv := svAll_cat (fun x hx => (HOKA.out x hx).1) h8
        simp only [hsv] at HI HSP
        have hcl := catB_len_le L HOKA.out
        have HRA := Lib.hid (show ∀ T, T.size ≤ 5000 → ∀ w, _ from fun T hT w => i_RecoverAll T (by omega) w)
        have hax : (tx (catB L)).size ≤ 4000 := by rw [tx_size]; omega
        have HR1 := Lib.hid (HRA.out (tx (catB L)) (by omega))
        rw [tx_data, rcA_whole HOKA.out h8] at HR1
        have HSA := Lib.hid (fun M (hM : ∀ x ∈ M, savedOk x.1 x.2.1 x.2.2 = true) (hl : M.length ≤ 8) v w (hv : SVL w v M) => show Calls Try.prog 25 #[v] w fun e w' => e = .returned (.tuple #[.string (tx (catB M)), .bool true]) ∧ Below w.heap.size w w' by
          have h := i_StoreAll v M w hv
          rw [svAll_cat hM hl] at h
          exact h)
        have hel := endsL_length L L.length
        have HEG := Lib.hid (fun j h => endsL_get L L.length (j := j) h)
        obtain ⟨N, hN⟩ : ∃ N, N = (catB L).length := ⟨_, rfl⟩
        rw [← hN] at HR1
        have htk : L.take L.length = L := List.take_of_length_le (Nat.le_refl _)
        have haN : (tx (catB L)).size = N := by rw [tx_size, hN]
        obtain ⟨A, hA⟩ : ∃ A, A = tx (catB L) := ⟨_, rfl⟩
        rw [← hA] at HI HSP HR1 hax haN
        have HAE := Lib.hid hA
        have HAD := Lib.hid (show A.data.toList = catB L by rw [hA, tx_data])
        have HNE := Lib.hid hN
        have HTK := Lib.hid htk
        clear hsv hA hN htk
        go_wp2_with fail
        refine (HI.out _ (Below.refl _ _)).mono ?_; rintro z w1 ⟨rfl, hb⟩
        have hw1 := hb
        have HB1 := Lib.hid (HB.out.trans (hb.mono hsz))
        have HE1 := Lib.hid (HE.out.keep hb)
        clear hb HI HB HE
        go_wp2_with fail
        refine (HSP.out _ hw1).mono ?_; rintro z w2 ⟨rfl, hb⟩
        have HB2 := Lib.hid (HB1.out.trans (hb.mono HB1.out.size))
        have HE2 := Lib.hid (HE1.out.keep hb)
        have hz2 := HB2.out.size
        clear hb HB1 HSP hw1 HE1
        go_wp2_with fail
        refine (HR1.out _).mono ?_; rintro z w3 ⟨⟨v1, rfl, hv1⟩, hb⟩
        have HB3 := Lib.hid (HB2.out.trans (hb.mono HB2.out.size))
        have HE3 := Lib.hid (HE2.out.keep hb)
        obtain ⟨ao1, c1, rfl, -, -⟩ := hv1.slice
        have HV1 := Lib.hid hv1.svl
        clear hb HB2 HE2 HR1 hv1
        go_wp2_with fail
        refine (HSA.out L (fun x hx => (HOKA.out x hx).1) h8 _ _ HV1.out).mono ?_; rintro z w4 ⟨rfl, hb⟩
        rw [← HAE.out]
        have HB4 := Lib.hid (HB3.out.trans (hb.mono HB3.out.size))
        have HE4 := Lib.hid (HE3.out.keep hb)
        have hz4 := HB4.out.size
        clear hb HB3 HE3 HV1
        obtain ⟨g, cap', hv1, hg1, hg2, hu0, -, -⟩ := HE4.out.at_ (k := L.length) (by omega)
        rw [HEG.out L.length (by omega), HTK.out, ← HNE.out] at hu0
        rw [hel] at hv1
        subst hv1
        have hcw := hcut
        by_cases hc0 : cut < 0
        · go_wp2_with fail
          go_ret
          exact ⟨rfl, HB4.out⟩
        by_cases hcA : (A.size : Int) ≤ cut
        · go_wp2_with fail
          go_ret
          exact ⟨rfl, HB4.out⟩
        obtain ⟨c0, rfl⟩ : ∃ c0 : Nat, cut = (c0 : Int) := ⟨cut.toNat, by omega⟩
        go_wp2_with fail
        have hcN : c0 < N := by omega
        clear hcw hc0 hcA hu0
        go_loopw [26] (fun q w5 => ∃ j : Nat, j ≤ L.length ∧ q = .int .i64 (j : Int) ∧ Hid ((catB (L.take j)).length ≤ c0) ∧ w5 = w4) (fun q _ => L.length - (intOf q).toNat)
        case atStart => exact ⟨0, Nat.zero_le _, rfl, Lib.hid (by simp [catB]), rfl⟩
        case round =>
          obtain ⟨j, hj, rfl, HJ, rfl⟩ := hrel
          have hjl : j < L.length := by
            rcases Nat.lt_or_ge j L.length with h | h
            · exact h
            · have e : j = L.length := by omega
              have h1 := HJ.out
              rw [e, HTK.out, ← HNE.out] at h1
              omega
          have hji : (j : Int) < (L.length : Int) := by omega
          have n1 : (0 : Int) ≤ (j : Int) + 1 := by omega
          have n2 : ((j : Int) + 1).toNat = j + 1 := by omega
          have n3 : (j : Int) + 1 < (L.length : Int) + 1 := by omega
          have n4 : IntKind.i64.wrap ((j : Int) + 1) = (j : Int) + 1 := by rw [IntKind.wrap_i64]; omega
          obtain ⟨g', cap2, hv1, -, -, hu1, -, -⟩ := HE4.out.at_ (k := j + 1) (by omega)
          obtain rfl : g = g' := by injection hv1 with e1; injection e1 with e1; injection e1
          rw [HEG.out (j + 1) (by omega)] at hu1
          clear hv1
          by_cases hle : (catB (L.take (j + 1))).length ≤ c0
          · have HL := Lib.hid hle
            have hlei : ((catB (L.take (j + 1))).length : Int) ≤ (c0 : Int) := by omega
            clear hle
            go_wp2_with fail
            exact ⟨⟨j + 1, by omega, by go_num, HL, trivial⟩, by simp [intOf]; omega⟩
          · have hlei : ¬ ((catB (L.take (j + 1))).length : Int) ≤ (c0 : Int) := by omega
            have HCUT := Lib.hid (rcA_cutL HOKA.out h8 hjl HJ.out (by omega))
            have HBENT := Lib.hid (fun y => rcA_bent HOKA.out h8 hjl HJ.out y)
            obtain ⟨g', cap2, hv1, -, -, hu2, -, -⟩ := HE4.out.at_ (k := j) (by omega)
            obtain rfl : g = g' := by injection hv1 with e1; injection e1 with e1; injection e1
            clear hv1
            rw [HEG.out j (by omega)] at hu2
            have HHU := Lib.hid hu2
            obtain ⟨m, hm⟩ : ∃ m, m = (catB (L.take j)).length := ⟨_, rfl⟩
            have HR2 := Lib.hid (HRA.out (A.extract 0 c0) (by rw [HAE.out, tx_piece, tx_size]; simp; omega))
            have e1 : (A.extract 0 c0).data.toList = (catB L).take c0 := by rw [HAE.out, tx_piece, tx_data, tx_data]; rfl
            rw [e1, HCUT.out] at HR2
            have e2 : A.extract 0 m = tx (catB (L.take j)) := by
              rw [HAE.out, tx_piece, tx_data, hm, List.drop_zero, Nat.sub_zero]
              have h := catB_split L j
              rw [h, List.take_append_of_le_length (Nat.le_refl _), List.take_of_length_le (Nat.le_refl _)]
            have HS2 := Lib.hid (HSA.out (L.take j) (fun x hx => (HOKA.out x (List.mem_of_mem_take hx)).1) (by rw [List.length_take]; omega))
            rw [← e2] at HS2
            have hmc : m ≤ c0 := by rw [hm]; exact HJ.out
            rw [← hm] at HR2 hu2
            have hlt2 : (L.take j).length = j := by rw [List.length_take]; omega
            clear e1 e2 HCUT hle
            generalize (catB (L.take (j + 1))).length = e1 at *
            generalize L.take j = Lj at *
            clear HHU hm
            have k1 : (0 : Int) ≤ (c0 : Int) := by omega
            have k2 : (c0 : Int) ≤ (A.size : Int) := by omega
            have k3 : c0 ≤ A.size := by omega
            have k4 : (0 : Int) ≤ (m : Int) := by omega
            have k5 : (m : Int) ≤ (A.size : Int) := by omega
            have k6 : m ≤ A.size := by omega
            go_wp2_with fail
            refine (HR2.out _).mono ?_; rintro z w6 ⟨⟨v2, rfl, hv2⟩, hb⟩
            have HB6 := Lib.hid (HB4.out.trans (hb.mono HB4.out.size))
            have HE6 := Lib.hid (HE4.out.keep hb)
            have hu3 := (hb.cell (p := ⟨g, j, none⟩) hg2).trans hu2
            have hz6 := hb.size
            have hv2' : RV 34 54 wr.heap.size w6.heap.size w6 v2 Lj := hv2
            obtain ⟨ao2, c2, he, -, -⟩ := hv2'.slice
            rw [hlt2] at he
            subst he
            have HV2 := Lib.hid hv2'.svl
            clear hb HR2 hv2 hv2' hu1 hu2
            go_wp2_with fail
            refine (HS2.out _ _ HV2.out).mono ?_; rintro z w7 ⟨rfl, hb⟩
            have HB7 := Lib.hid (HB6.out.trans (hb.mono HB6.out.size))
            have hu4 := (hb.cell (p := ⟨g, j, none⟩) (show g < _ by omega)).trans hu3
            have hz7 := hb.size
            clear hb HV2 HB6 HE6 hu3 HS2
            go_upto_if 234 with (fail)
            go_wp2_with (first
              | ((with_reducible refine wpList_bytes (s := A) Try.underlying9 Try.underlying48 Try.underlying5 ?_ ?_); (· rfl); intro cap8 w8 hcp hb8 hz8 hc8 hf8; have hu8 := hc8 c0 (by omega); have hf9 := hf8 c0 (by omega); have HC8 := Lib.hid (cells_of HAD.out hc8); have HB8 := Lib.hid (HB7.out.trans (hb8.mono HB7.out.size)); generalize ((A.data.toList.getD c0 0).toNat : Int) = x0 at hu8; clear hb8 hc8 hf8 HB7 hu4; obtain ⟨y, hy⟩ := byte_xor x0 bit; have HY := Lib.hid hy; clear hy)
              | ((with_reducible refine wpList_string (b := w7.heap.size) (n := N) (cap := cap8) (l := (catB L).set c0 y) Try.underlying48 Try.underlying5 Try.underlying9 ?_ ?_ ?_ ?_); (· rfl); (· rw [List.length_set]; exact HNE.out); (· exact set_cells HC8.out (by have := HNE.out; omega) HY.out hu8); have HC9 := Lib.hid (set_cells (v := .int .u8 (bits .xor .u8 x0 bit)) HC8.out (by have := HNE.out; omega) HY.out hu8); have HB9 := Lib.hid (HB8.out.setCell (p := ⟨w7.heap.size, c0, none⟩) (by simp; omega) (.int .u8 (bits .xor .u8 x0 bit)))))
            have hback := rcA_back 8 ((catB L).set c0 y)
            have hbent := HBENT.out y
            have HR3 := Lib.hid (HRA.out (tx ((catB L).set c0 y)) (by rw [tx_size, List.length_set]; have := HNE.out; omega))
            rw [tx_data] at HR3
            have hbl : ((catB L).set c0 y).length = N := by rw [List.length_set]; exact HNE.out.symm
            generalize (catB L).set c0 y = bl at *
            generalize rcA bl 8 = Q3 at *
            obtain ⟨M, o⟩ := Q3
            simp only at hback hbent
            obtain ⟨hb1, hb2, hb3, hb4⟩ := hback
            have HBK := Lib.hid hb1
            have HOKM := Lib.hid hb4
            have hW := HB9.out.size
            have hlt7 : w7.heap.size < (w8.setCell ⟨w7.heap.size, c0, none⟩ (.int .u8 (bits .xor .u8 x0 bit))).heap.size := by simp; omega
            clear hb1 hb4 hu8 hf9 HY HC8 HB8
            refine (HR3.out _).mono ?_; rintro z w10 ⟨⟨v3, rfl, hv3⟩, hb⟩
            have hv3' : RV 34 54 _ w10.heap.size w10 v3 M := hv3
            obtain ⟨ao3, c3, rfl, -, -⟩ := hv3'.slice
            have HV3 := Lib.hid hv3'.svl
            have HB10 := Lib.hid (HB9.out.trans (hb.mono hW))
            have HC10 := Lib.hid (fun j hj => (hb.cell (p := ⟨w7.heap.size, j, none⟩) hlt7).trans (HC9.out j hj))
            have hz10 := hb.size
            clear hb hv3 hv3' HB9 HC9 HR3
            go_wp2_with fail
            refine (HSA.out M HOKM.out hb3 _ _ HV3.out).mono ?_; rintro z w11 ⟨rfl, hb⟩
            rw [HBK.out]
            have HB11 := Lib.hid (HB10.out.trans (hb.mono HB10.out.size))
            have hlo : (bl.take o).length = o := by rw [List.length_take]; omega
            have RS := run_convert_bytes_back w11 48 9 5 ⟨w7.heap.size, 0, none⟩ cap8 (bl.take o) Try.underlying48 Try.underlying5 Try.underlying9 (fun j' hj' => by
              rw [Addr.add_lit, Nat.zero_add, List.getElem_take]
              exact (hb.cell (p := ⟨w7.heap.size, j', none⟩) (show w7.heap.size < _ by omega)).trans (HC10.out j' (by omega)))
            rw [hlo] at RS
            have RS : (convert 48 9 (.slice (some ⟨w7.heap.size, 0, none⟩) o cap8)).run Try.prog w11 = .ok (.string (tx (bl.take o))) w11 := RS
            have m1 : (j : Int) ≤ (M.length : Int) := by omega
            have m2 : (0 : Int) ≤ (o : Int) := by omega
            have m3 : (o : Int) ≤ (N : Int) := by omega
            have m4 : (o : Int) ≤ (cap8 : Int) := by omega
            have m5 : o ≤ cap8 := by omega
            clear hb HV3 HB10 HC10 HBK HOKM hb3 hlo hlt7
            go_wp2_with fail
            go_ret
            exact ⟨ret_bool (by simp [ByteArray.toList_eq, tx_data]), HB11.out⟩
set_option maxRecDepth 100000 in
theorem FnStoredOfAll_lifted (os : Os) (started : os.Started) (H : Type) (enc : TypeId × Value → H) :
    ReturnsInHanded {} Try.checked os 8 .any (Rows.fnStoredOfAllSpec.pre6 enc Try.prog Try.f8 Rows.fnStoredOfAllRow.domain false) (Rows.fnStoredOfAllSpec.post enc Try.prog Try.f8 false true false false) := by
  refine returnsInHanded_of_change (C := Try.checked) own started (by kernel_rfl) Try.func8
    (ChangeSpec.witness6 (enc := enc) (C := Try.checked) false ⟨#[], #[.slice none 0 0, .int .i64 0, .int .u8 0], []⟩ 8 (by kernel_rfl) (by kernel_rfl) (by kernel_rfl) (by kernel_rfl)) ?_
  intro W base args ds gs before hval0 hW hcnd _
  have hval : ∀ (j : Nat) t v, Try.f8.params[j]? = some t → args[j]? = some v → Value.okWide Try.prog W .any base t v := hval0
  have hW' := hW
  obtain ⟨p, q, hA0, hV, rfl, hfz, hnd⟩ := hW
  have hA : DataW.TrodAll enc Try.prog W 0 (fun _ => true) true Try.f8.params.toList args.toList ds p := hA0
  rw [Try.params8] at hA hval
  obtain ⟨v0, vs0, d0, ds0, p0, q0, hargs, rfl, rfl, h0, r0⟩ := trodAll_cons hA
  obtain ⟨v1, vs1, d1, ds1, p1, q1, rfl, rfl, rfl, h1, r1⟩ := trodAll_cons r0
  obtain ⟨v2, vs2, d2, ds2, p2, q2, rfl, rfl, rfl, h2, r2⟩ := trodAll_cons r1
  obtain ⟨rfl, rfl, rfl⟩ := trodAll_nil r2
  obtain rfl : args = #[v0, v1, v2] := by cases args; simp_all
  obtain ⟨rfl, rfl⟩ := trodVars_none hV
  have k0 := h0
  have lt0 : ∀ x ∈ p0, x.block < W.heap.size := by obtain ⟨m, hm⟩ := k0; exact DataW.trod_lt m _ _ _ hm
  have k1 := h1
  have lt1 : ∀ x ∈ p1, x.block < W.heap.size := by obtain ⟨m, hm⟩ := k1; exact DataW.trod_lt m _ _ _ hm
  have k2 := h2
  have lt2 : ∀ x ∈ p2, x.block < W.heap.size := by obtain ⟨m, hm⟩ := k2; exact DataW.trod_lt m _ _ _ hm
  obtain ⟨b0, ln0, cp0, rfl⟩ := okWide_slice Try.underlying25 (hval 0 25 v0 rfl rfl)
  obtain ⟨c0, hc0⟩ : ∃ L, SVL W (.slice b0 ln0 cp0) L := by obtain ⟨fuel, hfu⟩ := h0; exact open_savedSI hfu
  obtain ⟨a1, rfl, _, _, hi1⟩ := open_int Try.underlying3 (hval 1 3 v1 rfl rfl) h1
  obtain ⟨a2, rfl, _, _, hi2⟩ := open_int Try.underlying5 (hval 2 5 v2 rfl rfl) h2
  clear hA0 hval0
  refine (FnStoredOfAll_walk (w := W) _ c0 hc0 a1 hi1 a2 hi2).mono fun e W' ⟨he, bel⟩ => ?_
  subst he
  exact ⟨_, rfl, _, _, _, [], _, [], hW', trodAll_mk1 (shut_bool Try.underlying4 _), (trodAll_cons_mk (Below.trod laidOut (by kernel_rfl) (of_decide_eq_true (by kernel_rfl)) k0 bel lt0) (trodAll_cons_mk (Below.trod laidOut (by kernel_rfl) (of_decide_eq_true (by kernel_rfl)) k1 bel lt1) (trodAll_cons_mk (Below.trod laidOut (by kernel_rfl) (of_decide_eq_true (by kernel_rfl)) k2 bel lt2) trodAll_mk0))), rfl, bel.frame _, fun h => by cases h⟩

theorem fnStoredOfAll_holds : Rows.FnStoredOfAllSaid :=
  OpenClaim.holds_of_wide 8 Try.f8 rfl rfl rfl rfl rfl rfl rfl ⟨rfl, rfl, rfl, rfl, rfl⟩ rfl rfl rfl rfl rfl (by kernel_rfl) Try.func8 (by kernel_rfl)
    (of_decide_eq_true (by kernel_rfl)) (by unfold Func.isWrapper; first | (rw [if_pos (by decide +kernel)]; kernel_rfl) | (rw [if_neg (by decide +kernel)]; exact ⟨rfl, rfl⟩))
    (fun os started H enc _ => FnStoredOfAll_lifted os started H enc)
#print axioms fnStoredOfAll_holds

end Go.Proofs.Ytfckfdaloamkdaa
