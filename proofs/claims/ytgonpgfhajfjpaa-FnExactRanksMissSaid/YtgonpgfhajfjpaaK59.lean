/- Contracts: centers and groups marked and held, in memory that is followed. -/
import Derived.Test.YtgonpgfhajfjpaaK58
namespace Go.Proofs.Ytgonpgfhajfjpaa
set_option linter.unusedSimpArgs false
set_option linter.unusedVariables false
set_option maxRecDepth 100000
set_option maxHeartbeats 4000000
set_option linter.unusedSimpArgs false
set_option linter.unusedVariables false
open Go.RowKit

theorem SD.wi {T1 T2 lo hi a b : Nat} {w w' : World} {v : Value} {css : List (List Nat)} (h : SD T1 T2 lo hi w v css) (hh : ∀ g, v.ownBlock = some g → g < hi) (hw : Wi a b w w') (hd : b ≤ lo ∨ hi ≤ a) : SD T1 T2 lo hi w' v css := by
  obtain ⟨vs, h1, h2, h3, h4, h5⟩ := h
  exact ⟨vs, own_wi h1 hh hw hd, h2, fun i x y => (FW.keep ⟨h3 i x y, h4 i x⟩ hw hd).1, h4, h5⟩
/-- Slices of the call's own in blocks from lo on and below hi: rows apart. -/
def SX (T1 T2 lo hi : Nat) (w : World) (v : Value) (css : List (List Nat)) : Prop := SD T1 T2 lo hi w v css ∧ ∀ g, v.ownBlock = some g → g < hi
theorem SX.of {T1 T2 lo : Nat} {w : World} {v : Value} {css : List (List Nat)} (h : SD T1 T2 lo w.heap.size w v css) : SX T1 T2 lo w.heap.size w v css := by
  refine ⟨h, fun g hg => ?_⟩
  obtain ⟨vs, h1, -⟩ := h
  exact (h1.block g hg).2
theorem SX.keep {T1 T2 lo hi a b : Nat} {w w' : World} {v : Value} {css : List (List Nat)} (h : SX T1 T2 lo hi w v css) (hw : Wi a b w w') (hd : b ≤ lo ∨ hi ≤ a) : SX T1 T2 lo hi w' v css := ⟨h.1.wi h.2 hw hd, h.2⟩
theorem SX.ss {T1 T2 lo hi : Nat} {w : World} {v : Value} {css : List (List Nat)} (h : SX T1 T2 lo hi w v css) : SS w v css := h.1.so.ss
/-- Centers and groups of the call's own, in the same memory. -/
def CG (T1 T2 T3 lo hi : Nat) (w : World) (u v : Value) (css : List (List Nat)) (gs : List Int) : Prop := SX T1 T2 lo hi w u css ∧ GW (Value.int .i64) T3 lo hi w v gs
theorem CG.of {T1 T2 T3 lo : Nat} {w : World} {u v : Value} {css : List (List Nat)} {gs : List Int} (h : SD T1 T2 lo w.heap.size w u css) (h2 : GO (Value.int .i64) T3 lo w v gs) : CG T1 T2 T3 lo w.heap.size w u v css gs := ⟨SX.of h, GW.of h2⟩
theorem CG.keep {T1 T2 T3 lo hi a b : Nat} {w w' : World} {u v : Value} {css : List (List Nat)} {gs : List Int} (h : CG T1 T2 T3 lo hi w u v css gs) (hw : Wi a b w w') (hd : b ≤ lo ∨ hi ≤ a) : CG T1 T2 T3 lo hi w' u v css gs := ⟨h.1.keep hw hd, h.2.keep hw hd⟩
theorem CG.ss {T1 T2 T3 lo hi : Nat} {w : World} {u v : Value} {css : List (List Nat)} {gs : List Int} (h : CG T1 T2 T3 lo hi w u v css gs) : SS w u css := h.1.ss
theorem CG.gl {T1 T2 T3 lo hi : Nat} {w : World} {u v : Value} {css : List (List Nat)} {gs : List Int} (h : CG T1 T2 T3 lo hi w u v css gs) : GL (Value.int .i64) w v gs := h.2.gl
/-- A slice of integers turns: the centers are kept. -/
theorem SD.kept_wi {T1 T2 T3 lo hi lo' : Nat} {w w' : World} {u v : Value} {css : List (List Nat)} {gs : List Int} (h : SD T1 T2 lo hi w u css) (h2 : GO (Value.int .i64) T3 lo' w v gs) (n1 : T1 ≠ T3) (n2 : T2 ≠ T3) (hw : ∀ g, (v.ownBlock = some g → Wi g (g + 1) w w') ) (hn : v.ownBlock = none → Wi 0 0 w w') : SD T1 T2 lo hi w' u css := by
  refine h.kept_go h2 n1 n2 ?_
  cases e : v.ownBlock with
  | none => have x := hn e; exact ⟨x.os, x.tape, x.output, x.size, fun k hk _ => x.block k hk (by omega)⟩
  | some g => have x := hw g e; exact ⟨x.os, x.tape, x.output, x.size, fun k hk hne => x.block k hk (by have : k ≠ g := fun e2 => hne (by rw [e2]); omega)⟩

theorem l_markSX (lo hi : Nat) (v : Value) (css : List (List Nat)) (k : Int) (w : World) (hv : SX 23 37 lo hi w v css) (h0 : 0 ≤ k) (h1 : mkAt css k css.length ≤ 1000000000000) (hlh : hi ≤ w.heap.size) :
    Calls Try.prog 12 #[v, .int .i64 k] w fun e w' => e = .returned (.int .i64 (mkAt css k css.length)) ∧ SX 23 37 lo hi w' v (mkL css k) ∧ Wi lo hi w w' :=
  (l_markFloat32SS lo hi v css k w hv.1 h0 h1 hlh).mono fun _ _ ⟨he, ho, hw, _⟩ => ⟨he, ⟨ho, hv.2⟩, hw⟩

theorem l_markCG1 (lo hi : Nat) (u v : Value) (css : List (List Nat)) (gs : List Int) (k : Int) (w : World) (hv : CG 23 37 2 lo hi w u v css gs) (h0 : 0 ≤ k) (h1 : mkAt css k css.length ≤ 1000000000000) (hlh : hi ≤ w.heap.size) :
    Calls Try.prog 12 #[u, .int .i64 k] w fun e w' => e = .returned (.int .i64 (mkAt css k css.length)) ∧ CG 23 37 2 lo hi w' u v (mkL css k) gs ∧ Wi lo hi w w' :=
  (l_markFloat32SS lo hi u css k w hv.1.1 h0 h1 hlh).mono fun _ _ ⟨he, ho, hw, hk⟩ => ⟨he, ⟨⟨ho, hv.1.2⟩, ⟨hk _ _ _ hv.2.1, hv.2.2⟩⟩, hw⟩
theorem l_markCG2 (lo hi : Nat) (u v : Value) (css : List (List Nat)) (gs : List Int) (k : Int) (w : World) (hv : CG 23 37 2 lo hi w u v css gs) (h0 : 0 ≤ k) (h1 : k ≤ 1000000000000) (hn : gs.length < 1099511627776) :
    Calls Try.prog 14 #[v, .int .i64 k] w fun e w' => e = .returned (.int .i64 (k + gs.length)) ∧ CG 23 37 2 lo hi w' u v css (markG id k gs.length) ∧ Wi lo hi w w' := by
  obtain ⟨⟨hs, hsh⟩, ⟨hg, hgh⟩⟩ := hv
  cases e : v.ownBlock with
  | none =>
    refine (l_markInt64S lo 0 v gs k w ⟨hg, fun g hg2 => by rw [e] at hg2; cases hg2⟩ h0 h1 hn).mono fun z w' ⟨he, ho, hw⟩ => ?_
    have hw0 : Wi 0 0 w w' := ⟨hw.os, hw.tape, hw.output, hw.size, fun k hk _ => hw.block k hk (by omega)⟩
    exact ⟨he, ⟨⟨hs.wi hsh hw0 (by omega), hsh⟩, ⟨ho.1, hgh⟩⟩, ⟨hw.os, hw.tape, hw.output, hw.size, fun k hk _ => hw.block k hk (by omega)⟩⟩
  | some g =>
    have hlo := hg.own_ge g e
    have hhi := hgh g e
    have hgg : GW (Value.int .i64) 2 g (g + 1) w v gs := by
      refine ⟨?_, fun g2 hg2 => by rw [e] at hg2; injection hg2 with hg2; omega⟩
      refine ⟨hg.1, ?_⟩
      rcases hg.2 with h | ⟨g2, cap, cur, rfl, hb, r⟩
      · exact .inl h
      · have e2 : g2 = g := by simpa [Value.ownBlock] using e
        subst e2
        exact .inr ⟨g2, cap, cur, rfl, Nat.le_refl _, r⟩
    refine (l_markInt64S g (g + 1) v gs k w hgg h0 h1 hn).mono fun z w' ⟨he, ho, hw⟩ => ?_
    have hs2 := hs.kept_wi hg (by decide) (by decide) (fun g2 hg2 => by rw [e] at hg2; injection hg2 with hg2; subst hg2; exact hw) (fun hn2 => by rw [e] at hn2; cases hn2)
    exact ⟨he, ⟨⟨hs2, hsh⟩, ⟨ho.1.down hlo, hgh⟩⟩, hw.mono hlo (by omega)⟩

end Go.Proofs.Ytgonpgfhajfjpaa
