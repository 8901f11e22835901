/- Bytes: numbers in bytes, the least one first; check numbers; slices of bytes of the call's own. -/
import Derived.Lib.AppendStr
import Derived.Lib.ConvBytes
import Derived.Laws.IdiomStrings
import Derived.Laws.AppendOwnNone
import Derived.Test.YtkkomajokdlkeaaQ3
namespace Go.Proofs.Ytkkomajokdlkeaa
set_option linter.unusedSimpArgs false
set_option linter.unusedVariables false
set_option maxRecDepth 100000
set_option maxHeartbeats 4000000
open Go.RowKit

/-- A byte as a value. -/
def byV (b : UInt8) : Value := .int .u8 (b.toNat : Int)
theorem byV_one (b : UInt8) : (byV b).oneCell' = true := rfl
/-- The byte of a number. -/
def u8 (n : Int) : UInt8 := UInt8.ofNat (n % 256).toNat
theorem u8_val (n : Int) : ((u8 n).toNat : Int) = n % 256 := by
  have h1 := Int.emod_nonneg n (show (256 : Int) ≠ 0 by decide)
  have h2 := Int.emod_lt_of_pos n (show (0 : Int) < 256 by decide)
  unfold u8
  rw [UInt8.toNat_ofNat']
  omega
theorem byV_u8 (n : Int) : byV (u8 n) = .int .u8 (n % 256) := by unfold byV; rw [u8_val]
theorem u8_byte (b : UInt8) : u8 (b.toNat : Int) = b := by
  apply UInt8.toNat_inj.1
  have h := u8_val (b.toNat : Int)
  have h2 := b.toNat_lt
  omega
/-- A number in k bytes, the least one first. -/
def leB (n : Int) : Nat → List UInt8
  | 0 => []
  | k + 1 => leB n k ++ [u8 (n / 256 ^ k)]
theorem leB_length (n : Int) (k : Nat) : (leB n k).length = k := by
  induction k with
  | zero => rfl
  | succ k ih => simp [leB, ih]
theorem pow256 (n : Int) (k : Nat) : n / 256 ^ k / 256 = n / 256 ^ (k + 1) := by
  rw [Int.ediv_ediv_of_nonneg (Int.le_of_lt (Int.pow_pos (by decide))), Int.pow_succ]
theorem pow256_nonneg {n : Int} (h : 0 ≤ n) (k : Nat) : 0 ≤ n / 256 ^ k := Int.ediv_nonneg h (Int.le_of_lt (Int.pow_pos (by decide)))
theorem pow256_le {n : Int} (h : 0 ≤ n) (k : Nat) : n / 256 ^ k ≤ n := Int.ediv_le_self _ h
theorem leB4 (n : Int) : leB n 4 = [u8 n, u8 (n / 256), u8 (n / 65536), u8 (n / 16777216)] := by
  simp only [leB, List.nil_append, List.cons_append]
  rw [show (256 : Int) ^ 0 = 1 from rfl, show (256 : Int) ^ 1 = 256 from rfl, show (256 : Int) ^ 2 = 65536 from rfl, show (256 : Int) ^ 3 = 16777216 from rfl, Int.ediv_one]
theorem leB2 (n : Int) : leB n 2 = [u8 n, u8 (n / 256)] := by
  simp only [leB, List.nil_append, List.cons_append]
  rw [show (256 : Int) ^ 0 = 1 from rfl, show (256 : Int) ^ 1 = 256 from rfl, Int.ediv_one]
theorem u8_mod (n : Int) : u8 (n % 256) = u8 n := by
  apply UInt8.toNat_inj.1
  have h := u8_val n
  have h2 := u8_val (n % 256)
  rw [Int.emod_emod_of_dvd _ (Int.dvd_refl 256)] at h2
  omega
/-- The check number of bytes. -/
def ckL (n : Int) (l : List UInt8) : Int := l.foldl (fun n b => (941 * n + (b.toNat : Int) + 199) % 65003) n
theorem ckL_snoc (n : Int) (l : List UInt8) (b : UInt8) : ckL n (l ++ [b]) = (941 * ckL n l + (b.toNat : Int) + 199) % 65003 := by simp [ckL]
theorem ckL_bound {n : Int} (h0 : 0 ≤ n) (h1 : n < 65003) (l : List UInt8) : 0 ≤ ckL n l ∧ ckL n l < 65003 := by
  rcases List.eq_nil_or_concat l with rfl | ⟨l, b, rfl⟩
  · exact ⟨h0, h1⟩
  · rw [List.concat_eq_append, ckL_snoc]
    exact ⟨Int.emod_nonneg _ (by decide), Int.emod_lt_of_pos _ (by decide)⟩
theorem bytes_take_snoc (s : ByteArray) (k : Nat) (h : k < s.size) : s.data.toList.take (k + 1) = s.data.toList.take k ++ [s[k]] := by
  rw [List.take_succ_eq_append_getElem (by simpa using h)]
  rfl
/-- The bytes of what is saved, its check number left out; the whole. -/
def numsB (cs : List Nat) : Nat → List UInt8
  | 0 => []
  | k + 1 => numsB cs k ++ leB (cs.getD k 0 : Nat) 4
theorem numsB_length (cs : List Nat) (k : Nat) : (numsB cs k).length = 4 * k := by
  induction k with
  | zero => rfl
  | succ k ih => simp [numsB, ih, leB_length]; omega
def headB (s : ByteArray) (d : Int) (cs : List Nat) : List UInt8 := [83, 69, 82, 49] ++ [u8 s.size] ++ s.data.toList ++ leB (d + 1000000) 4 ++ [u8 cs.length]
def bodyB (s : ByteArray) (d : Int) (cs : List Nat) : List UInt8 := headB s d cs ++ numsB cs cs.length
def storeB (s : ByteArray) (d : Int) (cs : List Nat) : List UInt8 := bodyB s d cs ++ leB (ckL 0 (bodyB s d cs)) 2
theorem bodyB_length (s : ByteArray) (d : Int) (cs : List Nat) : (bodyB s d cs).length = 10 + s.size + 4 * cs.length := by
  simp [bodyB, headB, numsB_length, leB_length]; omega
theorem storeB_length (s : ByteArray) (d : Int) (cs : List Nat) : (storeB s d cs).length = 12 + s.size + 4 * cs.length := by
  simp [storeB, bodyB_length, leB_length]; omega
/-- What StoreSaved returns. -/
def storeQ (s : ByteArray) (d : Int) (cs : List Nat) (ok : Bool) : ByteArray × Bool := if ok then (⟨(storeB s d cs).toArray⟩, true) else (⟨#[]⟩, false)
section
variable {P : Program} {S T U : Nat}
/-- A string appended to bytes of the call's own. -/
theorem wp_append_str (F : OneC P S T (.int .u8 0) 1) (hu : P.underlying U = some .string) {Q : Exit → Act → World → Prop} {a : Act} {w : World} {K : Act → World → Prop} {o : Oper} (sl x : Operand)
    (ho : o.op = .call { callee := .builtin .append, args := #[sl, x], argTypes := #[S, U] }) (lo : Nat) (v : Value) (xs : List UInt8) (hs : a.eval sl = v) (hown : GO byV T lo w v xs) (s : ByteArray) (hx : a.eval x = .string s)
    (hl : xs.length + s.size < 1099511627776) (hbase : lo ≤ w.heap.size)
    (h : ∀ v' w', GO byV T lo w' v' (xs ++ s.data.toList) → w.grownBy w' v.ownBlock → K (a.put o.dst v') w') : o.wp P a w K Q := by
  obtain ⟨i, hi, hz, hsz, hby⟩ := F.info
  obtain ⟨v', w', hr, h2, h3, _⟩ := Lib.run_append_own_string (P := P) w lo S U o.type T i F.slice hu hi hz hsz hby v xs.length _ hown s (by have : maxLen = 9223372036854775807 := rfl; omega) (by omega) hbase
  unfold Oper.wp execOp
  simp only [ho, resolve, invoke, builtin, Sem.run_bind, Sem.run_pure, Result.andThen_ok, List.map_toArray, List.map_cons, List.map_nil, hs, hx, hr]
  refine h v' w' ?_ h3
  unfold GO
  rw [List.length_append, List.map_append, show s.data.toList.length = s.size from by simp]
  exact h2
/-- string(b). -/
theorem run_str (F : OneC P S T (.int .u8 0) 1) (hu : P.underlying U = some .string) (he : P.underlying T = some (.int .u8)) {lo : Nat} {w : World} {v : Value} {xs : List UInt8} (h : GO byV T lo w v xs) (hne : xs ≠ []) :
    (convert S U v).run P w = .ok (.string ⟨xs.toArray⟩) w := by
  obtain ⟨ao, c, rfl, _, hget⟩ := h.gl
  have hpos : 0 < xs.length := List.length_pos_iff.2 hne
  obtain ⟨b, off, rfl, _, _⟩ := hget 0 hpos
  refine run_convert_bytes_back w S U T ⟨b, off, none⟩ c xs F.slice he hu (fun j hj => ?_)
  obtain ⟨b', off', e1, e2, e3⟩ := hget j hj
  injection e1 with e1
  injection e1 with e1 e4
  subst e1 e4
  rw [Addr.add_lit]
  exact e3
end
theorem cell_lit2 (w : World) (C : Array Value) (T : TypeId) (m : Nat × Nat) (o : Obj) (j : Nat) : ((w.alloc (.cells C T m)).alloc o).cell? ⟨w.heap.size, j, none⟩ = C[j]? := by
  rw [World.cell?_alloc_lt (w.alloc (.cells C T m)) o ⟨w.heap.size, j, none⟩ (by simp)]
  show (match (w.heap.push _)[w.heap.size]? with | some (.cells c _ _) => _ | _ => _) = _
  rw [Array.getElem?_push, if_pos rfl]
  rfl
theorem GO.grown_low2 {α : Type} {inj : α → Value} {T lo B : Nat} {w w' : World} {v : Value} {xs : List α} (h : GO inj T lo w v xs) (hb : Below B w w') (hlt : ∀ g, v.ownBlock = some g → g < B) : GO inj T lo w' v xs := by
  refine ⟨h.1, ?_⟩
  rcases h.2 with h0 | ⟨g, cap, cur, rfl, hbg, hg, rest⟩
  · exact .inl h0
  · exact .inr ⟨g, cap, cur, rfl, hbg, (hb.block g (hlt g rfl)).trans hg, rest⟩
section
variable {α : Type} {inj : α → Value} {P : Program} {S T : Nat} {z : Value} {by_ : Nat}
/-- append of cells that lie at the head of a block, whatever the capacity. -/
theorem wpList_gapp2 (F : OneC P S T z by_) (hinj : ∀ x, (inj x).oneCell' = true) {ops : Array Oper} {Q : Exit → Act → World → Prop} {a : Act} {w : World} {rest : List Oper} {dst : Option Tmp} {s x : Operand} {type : TypeId} {pos : String} {after : Array Edge}
    (lo : Nat) (v : Value) (xs : List α) (hs : a.eval s = v) (hown : GO inj T lo w v xs) (ys : List α) (b m c : Nat) (hm : m = ys.length) (hx : a.eval x = .slice (some ⟨b, 0, none⟩) m c) (hc : ∀ i u, ys[i]? = some u → w.cell? ⟨b, i, none⟩ = some (inj u))
    (hl : xs.length + ys.length < 1099511627776) (hbase : lo ≤ w.heap.size)
    (h : ∀ v' w', GO inj T lo w' v' (xs ++ ys) → w.grownBy w' v.ownBlock → wpList P ops Q rest (a.put dst v') w') :
    wpList P ops Q ({ dst := dst, op := .call { callee := .builtin .append, args := #[s, x], argTypes := #[S, S] }, type := type, pos := pos, after := after, guard := none } :: rest) a w := by
  obtain ⟨i, hi, hz, hsz, hby⟩ := F.info
  have h16 := F.small
  subst hm
  refine wpList_append_own (P := P) w rfl s x S rfl lo T i z 1 by_ F.slice hi hz hsz hby (by rw [F.one]; rfl) (by decide) v xs.length _ hs hown ⟨b, 0, none⟩ ys.length c (ys.map inj) hx (by simp) ?_ ?_ ?_ ?_ hbase ?_
  · intro j u hu
    rw [List.getElem?_map] at hu
    obtain ⟨y, hy, rfl⟩ := Option.map_eq_some_iff.1 hu
    rw [Addr.add_lit, Nat.zero_add]
    exact hc j y hy
  · intro u hu
    obtain ⟨y, _, rfl⟩ := List.mem_map.1 hu
    exact hinj y
  · have : maxLen = 9223372036854775807 := rfl
    omega
  · have : (xs.length + ys.length) * by_ ≤ 1099511627776 * 32 := Nat.mul_le_mul (by omega) h16
    omega
  · intro v' w' h1 h2 _
    refine h v' w' ?_ h2
    unfold GO
    rw [List.length_append, List.map_append]
    exact h1
end
theorem bytesWorld_get (w : World) (e : TypeId) (s : ByteArray) : ∀ i u, s.data.toList[i]? = some u → (Lib.bytesWorld w e s).cell? ⟨w.heap.size, i, none⟩ = some (byV u) := by
  intro i u hu
  have hi : i < s.data.toList.length := (List.getElem?_eq_some_iff.1 hu).1
  rw [Lib.bytesWorld_cell w e s i (by simpa using hi)]
  rw [List.getElem?_eq_getElem hi] at hu
  injection hu with hu
  have hi2 : i < s.data.size := by simpa using hi
  subst hu
  simp only [List.getD, byV, Array.getElem?_toList, Array.getElem?_eq_getElem hi2, Option.getD_some, Array.getElem_toList]
theorem bytesWorld_below {lo : Nat} {w0 w : World} (h : Below lo w0 w) (e : TypeId) (s : ByteArray) (hlo : lo ≤ w.heap.size) : Below lo w0 (Lib.bytesWorld w e s) :=
  h.trans ⟨rfl, rfl, rfl, by rw [Lib.bytesWorld_size]; omega, fun i hi => Lib.bytesWorld_at_old w e s i (by omega)⟩

end Go.Proofs.Ytkkomajokdlkeaa

namespace Go.Proofs.Ytkkomajokdlkeaa
set_option linter.unusedSimpArgs false
set_option linter.unusedVariables false
set_option maxRecDepth 100000
set_option maxHeartbeats 4000000
open Go.RowKit
theorem run_append_noneC {P : Program} {w : World} (base : Nat) (t ty e : TypeId) (i : TypeInfo) (size : Nat) (ht : P.underlying t = some (.slice e)) (hi : P.info? e = some i)
    (v : Value) (n c : Nat) (xs : List Value) (hown : w.ownsRow base e size v n xs) :
    (Builtin.append_ #[t, t] ty #[v, .slice none 0 c]).run P w = .ok v w := by
  rcases hown.2 with ⟨rfl, rfl⟩ | ⟨g, cap, cur, rfl, _, _, hnc, _⟩
  · simp [Builtin.append_, run_underlying ht, sizeOf, typeInfo, hi, Builtin.lenOf, Builtin.firstCells]
  · simp [Builtin.append_, run_underlying ht, sizeOf, typeInfo, hi, Builtin.lenOf, Builtin.firstCells, hnc, storeCells]
section
variable {α : Type} {inj : α → Value} {P : Program} {S T : Nat} {z : Value} {by_ : Nat}
theorem wpList_gappG (F : OneC P S T z by_) (hinj : ∀ x, (inj x).oneCell' = true) {ops : Array Oper} {Q : Exit → Act → World → Prop} {a : Act} {w : World} {rest : List Oper} {dst : Option Tmp} {s x : Operand} {type : TypeId} {pos : String} {after : Array Edge}
    (lo : Nat) (v : Value) (xs : List α) (hs : a.eval s = v) (hown : GO inj T lo w v xs) (ys : List α) (u : Value) (hx : a.eval x = u) (hc : GL inj w u ys)
    (hl : xs.length + ys.length < 1099511627776) (hbase : lo ≤ w.heap.size)
    (h : ∀ v' w', GO inj T lo w' v' (xs ++ ys) → w.grownBy w' v.ownBlock → wpList P ops Q rest (a.put dst v') w') :
    wpList P ops Q ({ dst := dst, op := .call { callee := .builtin .append, args := #[s, x], argTypes := #[S, S] }, type := type, pos := pos, after := after, guard := none } :: rest) a w := by
  obtain ⟨i, hi, hz, hsz, hby⟩ := F.info
  have h16 := F.small
  obtain ⟨ao, c, hu, hlc, hcell⟩ := hc
  subst hu
  cases ao with
  | none =>
    have hy : ys = [] := by
      cases ys with
      | nil => rfl
      | cons y ys =>
        obtain ⟨b, off, e, -⟩ := hcell 0 (by simp)
        cases e
    subst hy
    refine wpList_plain rfl fun K hK => ?_
    have hrun := run_append_noneC (P := P) (w := w) lo S type T i 1 F.slice hi v xs.length c _ hown
    unfold Oper.wp
    simp [execOp, resolve, invoke, builtin, hs, hx, hrun, Result.andThen]
    have h5 := h v w (by rw [List.append_nil]; exact hown) (grown_of_below (Below.refl _ _) _)
    exact hK _ _ h5
  | some ad =>
    refine wpList_append_own (P := P) w rfl s x S rfl lo T i z 1 by_ F.slice hi hz hsz hby (by rw [F.one]; rfl) (by decide) v xs.length _ hs hown ad ys.length c (ys.map inj) hx (by simp) ?_ ?_ ?_ ?_ hbase ?_
    · intro j u hu
      rw [List.getElem?_map] at hu
      obtain ⟨y, hy, rfl⟩ := Option.map_eq_some_iff.1 hu
      have hj : j < ys.length := (List.getElem?_eq_some_iff.1 hy).1
      obtain ⟨b, off, e, -, hcl⟩ := hcell j hj
      injection e with e
      subst e
      rw [Addr.add_lit, hcl]
      rw [List.getElem?_eq_getElem hj] at hy
      injection hy with hy
      rw [hy]
    · intro u hu
      obtain ⟨y, _, rfl⟩ := List.mem_map.1 hu
      exact hinj y
    · have : maxLen = 9223372036854775807 := rfl
      omega
    · have : (xs.length + ys.length) * by_ ≤ 1099511627776 * 32 := Nat.mul_le_mul (by omega) h16
      omega
    · intro v' w' h1 h2 _
      refine h v' w' ?_ h2
      unfold GO
      rw [List.length_append, List.map_append]
      exact h1
end
/-- What is laid in a new block is the call's own. -/
theorem GO.lit {α : Type} (inj : α → Value) (T lo : Nat) (w : World) (xs : List α) (hlo : lo ≤ w.heap.size) (hl : xs.length ≤ 9223372036854775807) : GO inj T lo (w.alloc (.cells (xs.map inj).toArray T)) (.slice (some ⟨w.heap.size, 0, none⟩) xs.length xs.length) xs := by
  have := World.ownsRow_lit (base := lo) (e := T) (size := 1) w (xs.map inj).toArray xs.length hlo hl (by simp)
  unfold GO
  simpa using this
/-- A block of one-cell elements is read as a slice. -/
theorem GL.blockN {α : Type} (inj : α → Value) (T : Nat) (w : World) (xs : List α) (hl : xs.length ≤ 9223372036854775807) : GL inj (w.alloc (.cells (xs.map inj).toArray T)) (.slice (some ⟨w.heap.size, 0, none⟩) xs.length xs.length) xs := by
  refine ⟨_, _, rfl, ⟨Nat.le_refl _, hl⟩, fun i hi => ⟨_, _, rfl, by simp, ?_⟩⟩
  rw [World.cell?_alloc_new]
  simp [hi]

end Go.Proofs.Ytkkomajokdlkeaa
