/- Contracts: a step of a trend. -/
import Derived.Test.YtkkomajokdlkeaaK2
import Derived.Test.YtkkomajokdlkeaaK6
import Derived.Test.YtkkomajokdlkeaaS8
import Derived.Test.YtkkomajokdlkeaaDm
import Derived.Test.YtkkomajokdlkeaaBk
namespace Go.Proofs.Ytkkomajokdlkeaa
set_option linter.unusedSimpArgs false
set_option linter.unusedVariables false
set_option maxRecDepth 100000
set_option maxHeartbeats 4000000
set_option linter.unusedSimpArgs false
set_option linter.unusedVariables false
open Go.RowKit
attribute [local go_sem] run_store_float run_store_complex alloc_drewN setCell_drewN dmUpon

theorem below_undrew2 {w w1 w2 : World} {B n : Nat} (h : Below B (w1.drewN n) w2) : Below B w1 w2 := ⟨h.os, h.tape, h.output, h.size, h.block⟩
def lst0 (x : Nat) : Nat := if fc .lss .f32 x 0 then 0 else x
def tsE (l s : Nat) : Nat := addF l s
def tsA (a b c d : Nat) : Nat := addF (addF (addF a b) (addF b c)) d
/-- A trend behind a step. -/
def tsNew (l s a b c n d t x : Nat) (seen : Bool) : List Nat :=
  if seen then
    [addF (addF l s) (mulF (divF (tsA a b c d) (addF (tsA a b c d) n)) (subF x (addF l s))),
     addF s (mulF (divF (addF b c) (addF (tsA a b c d) n)) (subF x (addF l s))),
     lst0 (subF (tsA a b c d) (mulF (divF (tsA a b c d) (addF (tsA a b c d) n)) (tsA a b c d))),
     subF (addF b c) (mulF (divF (tsA a b c d) (addF (tsA a b c d) n)) (addF b c)),
     lst0 (subF (addF c t) (mulF (divF (addF b c) (addF (tsA a b c d) n)) (addF b c))), n, d, t]
  else [addF l s, s, tsA a b c d, addF b c, addF c t, n, d, t]
def trendOkL : List Nat → Bool
  | [a, b, c, d, e, f, g, h] => trendOk a b c d e f g h
  | _ => false
def zeros8 : List Nat := [0, 0, 0, 0, 0, 0, 0, 0]
/-- What a step answers. -/
def tsQ (l s a b c n d t x : Nat) (seen : Bool) : List Nat × Nat × Bool :=
  if trendOk l s a b c n d t && fin x && trendOkL (tsNew l s a b c n d t x seen) && fin (addF l s) then (tsNew l s a b c n d t x seen, addF l s, true) else (zeros8, 0, false)
theorem tsQ_no {l s a b c n d t x : Nat} {seen : Bool} (h : (trendOk l s a b c n d t && fin x && trendOkL (tsNew l s a b c n d t x seen) && fin (addF l s)) = false) : tsQ l s a b c n d t x seen = (zeros8, 0, false) := by rw [tsQ, h]; rfl
theorem tsQ_yes {l s a b c n d t x : Nat} {seen : Bool} (h : (trendOk l s a b c n d t && fin x && trendOkL (tsNew l s a b c n d t x seen) && fin (addF l s)) = true) : tsQ l s a b c n d t x seen = (tsNew l s a b c n d t x seen, addF l s, true) := by rw [tsQ, h]; rfl
def TE (e : Ending) (q : List Nat × Nat × Bool) : Prop :=
  ∃ r0 r1 r2 r3 r4 r5 r6 r7 rE b, e = .returned (.tuple #[.agg #[.float .f32 r0, .float .f32 r1, .float .f32 r2, .float .f32 r3, .float .f32 r4, .float .f32 r5, .float .f32 r6, .float .f32 r7], .float .f32 rE, .bool b]) ∧
    (r0 < 4294967296 ∧ r1 < 4294967296 ∧ r2 < 4294967296 ∧ r3 < 4294967296 ∧ r4 < 4294967296 ∧ r5 < 4294967296 ∧ r6 < 4294967296 ∧ r7 < 4294967296 ∧ rE < 4294967296) ∧
    q = ([cn .f32 r0, cn .f32 r1, cn .f32 r2, cn .f32 r3, cn .f32 r4, cn .f32 r5, cn .f32 r6, cn .f32 r7], cn .f32 rE, b)
theorem TE.no {q : List Nat × Nat × Bool} (hq : q = (zeros8, 0, false)) : TE (.returned (.tuple #[.agg #[.float .f32 0, .float .f32 0, .float .f32 0, .float .f32 0, .float .f32 0, .float .f32 0, .float .f32 0, .float .f32 0], .float .f32 0, .bool false])) q := by
  subst hq
  refine ⟨0, 0, 0, 0, 0, 0, 0, 0, 0, false, rfl, by omega, ?_⟩
  rw [cn0]; rfl

theorem store32 (p j r : Nat) : ∀ w, (Instr.storeAt 33 (.pointer (some ⟨p, j, none⟩)) (.float .f32 r)).run Try.prog w = (store ⟨p, j, none⟩ (.float .f32 r) .plain).run Try.prog w := by intro w; go_simp

theorem s_l05Least (x : Nat) (hx : x < 4294967296) (w : World) : Calls Try.prog 88 #[.float .f32 x] w fun e w' => (∃ r, e = .returned (.float .f32 r) ∧ r < 4294967296 ∧ cn .f32 r = lst0 (cn .f32 x)) ∧ Dr w w' := by
  cases hc : fc .lss .f32 (cn .f32 x) (cn .f32 0)
  all_goals
    have HC := Lib.hid hc
    clear hc
    go_enter Try.func88, Try.ntmps88
    go_wp2_with (first | (refine wpList_fc .f32 _ _ rfl rfl rfl ?_; rw [HC.out]))
    go_ret
    have h := HC.out
    rw [cn0] at h
  · exact ⟨⟨_, rfl, hx, by rw [lst0, h]; rfl⟩, Dr.refl _⟩
  · exact ⟨⟨_, rfl, by omega, by rw [lst0, h]; exact cn0⟩, Dr.refl _⟩

end Go.Proofs.Ytkkomajokdlkeaa
