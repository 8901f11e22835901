/- Plain laws and small steps that the laws on what is stored share. -/
import Derived.Test.YtfckfdaloamkdaaRcl
import Derived.Test.YtfckfdaloamkdaaK139
import Derived.Test.YtfckfdaloamkdaaK71
import Derived.Lib.ConvBytes
import Derived.Laws.IdiomStrings
import Derived.Laws.Closers25b
namespace Go.Proofs.Ytfckfdaloamkdaa
set_option linter.unusedSimpArgs false
set_option linter.unusedVariables false
set_option maxRecDepth 100000
set_option maxHeartbeats 4000000
open Go.RowKit Go.Deep
attribute [local go_sem] run_store_float run_store_complex alloc_drewN setCell_drewN
theorem SVL.atE {w : World} {v : Value} {L : List Sd} (h : SVL w v L) : ∃ ao c, v = .slice ao L.length c ∧ L.length ≤ c ∧ c ≤ 9223372036854775807 ∧ ∀ i (hi : i < L.length), ∃ b off u, ao = some ⟨b, off, none⟩ ∧ b < w.heap.size ∧ w.cell? ⟨b, off + i * 3, none⟩ = some (.string L[i].1) ∧ w.cell? ⟨b, off + i * 3 + 1, none⟩ = some (.int .i64 L[i].2.1) ∧
      w.cell? ⟨b, off + i * 3 + 2, none⟩ = some u ∧ SB w u L[i].2.2 ∧ L[i].1.size ≤ 9223372036854775807 := by
  obtain ⟨ao, c, h1, h2, h3⟩ := h
  refine ⟨ao, c, h1, h2.1, h2.2, fun i hi => ?_⟩
  have e : L.getD i d0 = L[i] := by rw [List.getD_eq_getElem?_getD, List.getElem?_eq_getElem hi]; rfl
  rw [← e]
  exact h3 i hi
/-- Where the ones of a list end. -/
def endsL (L : List Sd) (k : Nat) : List Int := (List.range (k + 1)).map fun j => ((catB (L.take j)).length : Int)
theorem endsL_length (L : List Sd) (k : Nat) : (endsL L k).length = k + 1 := by simp [endsL]
theorem endsL_get (L : List Sd) (k : Nat) {j : Nat} (h : j < (endsL L k).length) : (endsL L k)[j] = ((catB (L.take j)).length : Int) := by simp [endsL]
theorem endsL_succ (L : List Sd) (k : Nat) : endsL L (k + 1) = endsL L k ++ [((catB (L.take (k + 1))).length : Int)] := by
  rw [endsL, List.range_succ, List.map_append]; rfl
theorem bytesWorld_belowR (w : World) (e : TypeId) (s : ByteArray) : Below w.heap.size w (Lib.bytesWorld w e s) := bytesWorld_below (Below.refl _ _) e s (Nat.le_refl _)
/-- A string's bytes in a slice of the call's own. -/
theorem wpList_bytes {P : Program} {ops : Array Oper} {rest : List Oper} {dst : Option Tmp} {x : Operand} {src dt e type : TypeId} {pos : String} {after : Array Edge} {a : Act} {w : World} {Q : Exit → Act → World → Prop} {u : TypeDesc} {s : ByteArray}
    (hs : P.underlying src = some u) (hd : P.underlying dt = some (.slice e)) (he : P.underlying e = some (.int .u8)) (hx : a.eval x = .string s)
    (h : ∀ cap w', s.size ≤ cap → Below w.heap.size w w' → w'.heap.size = w.heap.size + 1 → (∀ j, j < s.size → w'.cell? ⟨w.heap.size, j, none⟩ = some (.int .u8 (s.data.toList.getD j 0).toNat)) → (∀ j, j < s.size → w'.frozen? ⟨w.heap.size, j, none⟩ = false) → wpList P ops Q rest (a.put dst (.slice (some ⟨w.heap.size, 0, none⟩) s.size cap)) w') :
    wpList P ops Q ({ dst := dst, op := .convert src dt x, type := type, pos := pos, after := after, guard := none } :: rest) a w := by
  refine wpList_plain rfl fun K hK => ?_
  have hr := Lib.run_convert_string_bytes w src dt e s hs hd he
  unfold Oper.wp
  simp [execOp, hx, hr, Result.andThen]
  refine hK _ _ (h _ _ (grownCap_ge w s.size 0 e) (bytesWorld_belowR w e s) (Lib.bytesWorld_size w e s) (fun j hj => Lib.bytesWorld_cell w e s j hj) (fun j hj => ?_))
  simp [World.frozen?, Lib.bytesWorld_at_new, Lib.bytesCells]
  omega
/-- .. and back. -/
theorem wpList_string {P : Program} {ops : Array Oper} {rest : List Oper} {dst : Option Tmp} {x : Operand} {src dt e type : TypeId} {pos : String} {after : Array Edge} {a : Act} {w : World} {Q : Exit → Act → World → Prop} {b n cap : Nat} {l : List UInt8}
    (hs : P.underlying src = some (.slice e)) (he : P.underlying e = some (.int .u8)) (hd : P.underlying dt = some .string) (hx : a.eval x = .slice (some ⟨b, 0, none⟩) n cap) (hn : n = l.length)
    (hc : ∀ j (hj : j < l.length), w.cell? ⟨b, j, none⟩ = some (.int .u8 (l[j].toNat : Int)))
    (h : wpList P ops Q rest (a.put dst (.string (tx l))) w) :
    wpList P ops Q ({ dst := dst, op := .convert src dt x, type := type, pos := pos, after := after, guard := none } :: rest) a w := by
  refine wpList_plain rfl fun K hK => ?_
  have hr := run_convert_bytes_back w src dt e ⟨b, 0, none⟩ cap l hs he hd (fun j hj => by rw [Addr.add_lit, Nat.zero_add]; exact hc j hj)
  subst hn
  unfold Oper.wp
  simp [execOp, hx, hr, Result.andThen]
  exact hK _ _ h
theorem byte_xor (x b : Int) : ∃ y : UInt8, Value.int .u8 (bits .xor .u8 x b) = .int .u8 (y.toNat : Int) := by
  have h1 := bits_lo_u8 .xor x b
  have h2 := bits_hi_u8 .xor x b
  refine ⟨u8 (bits .xor .u8 x b), ?_⟩
  rw [u8_val, Int.emod_eq_of_lt h1 (by omega)]
theorem cells_of {w : World} {b : Nat} {s : ByteArray} {l : List UInt8} (h : s.data.toList = l) (hc : ∀ j, j < s.size → w.cell? ⟨b, j, none⟩ = some (.int .u8 (s.data.toList.getD j 0).toNat)) : ∀ j, j < l.length → w.cell? ⟨b, j, none⟩ = some (.int .u8 (l.getD j 0).toNat) := by
  subst h
  intro j hj
  exact hc j (by simpa using hj)
theorem set_cells {w : World} {b c : Nat} {l : List UInt8} {y : UInt8} {old v : Value} (hc : ∀ j, j < l.length → w.cell? ⟨b, j, none⟩ = some (.int .u8 (l.getD j 0).toNat)) (hcl : c < l.length) (hv : v = .int .u8 (y.toNat : Int)) (ho : w.cell? ⟨b, c, none⟩ = some old) :
    ∀ j (hj : j < (l.set c y).length), (w.setCell ⟨b, c, none⟩ v).cell? ⟨b, j, none⟩ = some (.int .u8 ((l.set c y)[j].toNat : Int)) := by
  intro j hj
  have hj2 : j < l.length := by rw [List.length_set] at hj; exact hj
  by_cases e : j = c
  · subst e
    rw [List.getElem_set_self, ← hv]
    exact World.cell?_setCell_same _ _ _ ho
  · rw [List.getElem_set_ne (Ne.symm e), World.cell?_setCell_other _ _ _ _ (by first | exact fun h => e (Addr.mk.inj h).2.1 | exact fun h => e (Addr.mk.inj h).2.1.symm), hc j hj2, List.getD_eq_getElem?_getD, List.getElem?_eq_getElem hj2]
    rfl
theorem rcA_whole {L : List Sd} (h : ∀ x ∈ L, okS x) (h8 : L.length ≤ 8) : rcA (catB L) 8 = (L, (catB L).length) := by
  have h1 := rcA_cat L [] 8 h h8
  rw [rcA_no lsQ_nil] at h1
  simpa using h1
theorem rcA_cutL {L : List Sd} (h : ∀ x ∈ L, okS x) (h8 : L.length ≤ 8) {j c : Nat} (hj : j < L.length) (h1 : (catB (L.take j)).length ≤ c) (h2 : c < (catB (L.take (j + 1))).length) : rcA ((catB L).take c) 8 = (L.take j, (catB (L.take j)).length) := by
  have hs := catB_split L (j + 1)
  have hl := catB_take_succ hj
  rw [hl, List.length_append] at h2
  have e : (catB L).take c = catB (L.take j) ++ (stB L[j]).take (c - (catB (L.take j)).length) := by
    rw [hs, hl, List.append_assoc, List.take_append, List.take_of_length_le h1, List.take_append_of_le_length (by omega)]
  have h3 := rcA_cat (L.take j) ((stB L[j]).take (c - (catB (L.take j)).length)) 8 (fun x hx => h x (List.mem_of_mem_take hx)) (by rw [List.length_take]; omega)
  rw [rcA_no (lsQ_cut (h _ (List.getElem_mem hj)) (by omega))] at h3
  rw [e, h3]
  simp
theorem rcA_bent {L : List Sd} (h : ∀ x ∈ L, okS x) (h8 : L.length ≤ 8) {j c : Nat} (hj : j < L.length) (h1 : (catB (L.take j)).length ≤ c) (y : UInt8) : j ≤ (rcA ((catB L).set c y) 8).1.length := by
  have hs := catB_split L j
  have e : (catB L).set c y = catB (L.take j) ++ (catB (L.drop j)).set (c - (catB (L.take j)).length) y := by rw [hs, List.set_append_right _ _ h1]
  have h3 := rcA_cat (L.take j) ((catB (L.drop j)).set (c - (catB (L.take j)).length) y) 8 (fun x hx => h x (List.mem_of_mem_take hx)) (by rw [List.length_take]; omega)
  rw [e, h3]
  simp only [List.length_append, List.length_take]
  omega
theorem sdAll_refl (L : List Sd) : ∀ k, sdAll L L k = true
  | 0 => rfl
  | k + 1 => by
    rw [sdAll, sdAll_refl L k]
    simp [sdSame]
theorem svSame_refl (L : List Sd) : svSame L L = true := by
  rw [svSame, sdAll_refl]
  simp
theorem svl_lit {w : World} {g : Nat} {s : ByteArray} {d : Int} {u : Value} {cs : List Nat} (h : BK w g [.string s, .int .i64 d, u]) (hs : SB w u cs) (hz : s.size ≤ 9223372036854775807) : SVL w (.slice (some ⟨g, 0, none⟩) 1 1) [(s, d, cs)] := by
  refine ⟨_, 1, rfl, by simp, fun i hi => ?_⟩
  have e : i = 0 := by simpa using hi
  subst e
  exact ⟨g, 0, u, rfl, h.lt, h.at (i := 0) rfl, h.at (i := 1) rfl, h.at (i := 2) rfl, hs, hz⟩
theorem byte_mod (a : Int) : ∃ y : UInt8, Value.int .u8 (a % 256) = .int .u8 (y.toNat : Int) := ⟨u8 a, by rw [u8_val]⟩
theorem byte_wrap (a : Int) : ∃ y : UInt8, Value.int .u8 (IntKind.u8.wrap a) = .int .u8 (y.toNat : Int) := by
  have h := wrap_within .u8 a
  refine ⟨u8 (IntKind.u8.wrap a), ?_⟩
  have h1 : 0 ≤ IntKind.u8.wrap a := h.1
  have h2 : IntKind.u8.wrap a ≤ 255 := h.2
  rw [u8_val, Int.emod_eq_of_lt h1 (by omega)]
theorem rel_byte {w0 W : World} {B b c : Nat} {l : List UInt8} {v old : Value} (hX : ∃ y : UInt8, v = .int .u8 (y.toNat : Int)) (hc : ∀ j, j < l.length → W.cell? ⟨b, j, none⟩ = some (.int .u8 (l.getD j 0).toNat)) (hcl : c < l.length) (ho : W.cell? ⟨b, c, none⟩ = some old) (hb : Below B w0 W) (hB : B ≤ b) {m : Nat} (hm : m ≤ W.heap.size) :
    ∃ y : UInt8, Hid (∀ j (hj : j < (l.set c y).length), (W.setCell ⟨b, c, none⟩ v).cell? ⟨b, j, none⟩ = some (.int .u8 ((l.set c y)[j].toNat : Int))) ∧ Hid (Below B w0 (W.setCell ⟨b, c, none⟩ v)) ∧ m ≤ (W.setCell ⟨b, c, none⟩ v).heap.size := by
  obtain ⟨y, hy⟩ := hX
  exact ⟨y, Lib.hid (set_cells hc hcl hy ho), Lib.hid (hb.setCell hB v), by simpa using hm⟩
theorem rel_byte2 (n : Nat) {w0 W : World} {B b c : Nat} {l : List UInt8} {v old : Value} (hX : ∃ y : UInt8, v = .int .u8 (y.toNat : Int)) (hc : ∀ j, j < l.length → W.cell? ⟨b, j, none⟩ = some (.int .u8 (l.getD j 0).toNat)) (hcl : c < l.length) (ho : W.cell? ⟨b, c, none⟩ = some old) (hb : Below B w0 W) (hB : B ≤ b) {m : Nat} (hm : m ≤ W.heap.size) :
    ∃ y : UInt8, Hid (∀ j (hj : j < (l.set c y).length), ((W.setCell ⟨b, c, none⟩ v).drewN n).cell? ⟨b, j, none⟩ = some (.int .u8 ((l.set c y)[j].toNat : Int))) ∧ Hid (Below B w0 ((W.setCell ⟨b, c, none⟩ v).drewN n)) ∧ m ≤ ((W.setCell ⟨b, c, none⟩ v).drewN n).heap.size := by
  obtain ⟨y, h1, h2, h3⟩ := rel_byte hX hc hcl ho hb hB hm
  exact ⟨y, h1, Lib.hid (below_drewN h2.out n), h3⟩

end Go.Proofs.Ytfckfdaloamkdaa
