/- Gaps of equal eighths, and what is found first. Plain, and a contract (for FnDrift). -/
import Derived.Test.YtnhenklopigfnaaSd8
import Derived.Test.YtnhenklopigfnaaK40
namespace Go.Proofs.Ytnhenklopigfnaa
set_option linter.unusedSimpArgs false
set_option linter.unusedVariables false
set_option maxRecDepth 100000
set_option maxHeartbeats 4000000
open Go.RowKit
theorem dFind_bound (p : Nat → Bool) : ∀ n : Nat, -1 ≤ dFind p n ∧ dFind p n < (n : Int)
  | n => by
    unfold dFind
    split
    · rename_i i h
      have := List.mem_range.1 (List.mem_of_find?_eq_some h)
      omega
    · omega
theorem dFind_succ (p : Nat → Bool) (n : Nat) : dFind p (n + 1) = if decide (dFind p n < 0) && p n then (n : Int) else dFind p n := by
  have hs : (List.range (n + 1)).find? p = ((List.range n).find? p).or (if p n then some n else none) := by
    rw [List.range_succ, List.find?_append]
    congr 1
    cases h : p n <;> simp [h]
  unfold dFind
  rw [hs]
  cases h : (List.range n).find? p with
  | some i =>
    have : ¬ ((i : Int) < 0) := by omega
    simp [this]
  | none =>
    cases hp : p n <;> simp
theorem zero64_self {X : Nat} (h1 : (Ieee.double.read X).isNaN = false) (h2 : (Ieee.double.read X).isInfinity = false) : ar .sub .f64 X X = 0 := by
  show (Ieee.double.sub X X).getD _ = 0
  unfold Ieee.Format.sub
  cases hr : Ieee.double.read X with
  | nan s t => rw [hr] at h1; simp [Ieee.Datum.isNaN] at h1
  | infinity s => rw [hr] at h2; simp [Ieee.Datum.isInfinity] at h2
  | number s m p =>
    show (Option.map Ieee.double.write (((Ieee.Datum.number s m p).sum (.number (!s) m p)))).getD _ = 0
    unfold Ieee.Datum.sum
    have e : Ieee.signed s m (p - min p p).toNat + Ieee.signed (!s) m (p - min p p).toNat = 0 := by
      unfold Ieee.signed
      cases s <;> simp <;> omega
    dsimp only
    rw [e, if_pos rfl]
    show Ieee.double.nearest (s && !s) 0 (min p p) = 0
    unfold Ieee.Format.nearest
    rw [if_pos (by rfl)]
    cases s <;> decide +kernel
theorem wd_fine {a : Nat} {x : Int} (h : Ev a x) : (Ieee.double.read (wd a)).isNaN = false ∧ (Ieee.double.read (wd a)).isInfinity = false := by
  have hn := h.notNaN
  obtain ⟨r, hr, hw, hi⟩ := wide_ok a hn
  have hf : (S.read a).isInfinity = false := by
    obtain ⟨_, s, k, h2, _⟩ := h
    rw [h2]; rfl
  have e : wd a = Ieee.double.word (S.read a).neg r := by unfold wd; rw [if_neg (by simp [hn])]; exact hw
  refine ⟨?_, ?_⟩
  · unfold wd; rw [if_neg (by simp [hn])]; exact wide_not_nan a hn
  · rw [e]; exact read_word_inf Ieee.double (by decide +kernel) _ (by rw [d_inf]; exact hi hf)
/-- The gap of two that are as many eighths is nothing. -/
theorem gap_ev {a b : Nat} {x : Int} (ha : Ev a x) (hb : Ev b x) : gapF (wd a) (wd b) = 0 ∨ gapF (wd a) (wd b) = 9223372036854775808 := by
  rcases ha.same hb with rfl | ⟨h1, h2⟩
  · have h := wd_fine ha
    have hl : fc .lss .f64 (wd a) (wd a) = false := by unfold fc; rw [order_self .f64 _ h.1]; rfl
    rw [gapF, hl]
    exact .inl (zero64_self h.1 h.2)
  · rcases h1 with rfl | rfl <;> rcases h2 with rfl | rfl
    all_goals decide +kernel
theorem cn64_raw {r c : Nat} (h : cn .f64 r = c) (hc : (Ieee.double.read c).isNaN = false) : r = c := by
  cases hr : (FloatKind.f64.format.read r).isNaN
  · rw [← h, cn_of_not hr]
  · rw [cn_of_nan hr] at h
    rw [← h] at hc
    have h2 : (Ieee.double.read (qnan .f64)).isNaN = true := qnan_isNaN .f64
    rw [h2] at hc; cases hc
theorem run_wdx {P : Program} (w : World) (src dst : TypeId) (b : Nat) (hs : (P.underlying src).isSome = true) (hd : P.underlying dst = some (.float .f64)) (hn : (S.read b).isNaN = false) :
    (convert src dst (.float .f32 b)).run P w = .ok (.float .f64 (wd b)) w := by
  have e : wd b = Ieee.double.write (S.read b) := by unfold wd; rw [if_neg (by simp [hn])]
  rw [e]
  refine run_convert_float_float (P := P) w src dst .f32 .f64 b _ hs hd ?_
  unfold floatToFloatBits
  rw [if_neg (by decide)]
  show (match S.read b with | .nan _ _ => none | .infinity s => some (FloatKind.f64.encode (.infinity s)) | .number s m e => if (FloatKind.f64.decode (FloatKind.f64.encode (.number s m e))).isInfinity = true then none else some (FloatKind.f64.encode (.number s m e))) = _
  obtain ⟨r, hr, hw, hi⟩ := wide_ok b hn
  cases hd : S.read b with
  | nan s t => rw [hd] at hn; simp [Ieee.Datum.isNaN] at hn
  | infinity s => rfl
  | number s m e =>
    rw [hd] at hw hi
    have h1 : FloatKind.f64.encode (.number s m e) = Ieee.double.word s r := hw
    have h2 : (FloatKind.f64.decode (FloatKind.f64.encode (.number s m e))).isInfinity = false := by
      rw [h1]; exact read_word_inf Ieee.double (by decide +kernel) s (by rw [d_inf]; exact hi rfl)
    dsimp only
    rw [h2]; rfl
theorem gap_small {a b : Nat} {x : Int} (ha : Ev a x) (hb : Ev b x) : FloatKind.f64.format.order (gapF (wd a) (wd b)) 4562254508917369340 = some .lt := by
  rcases gap_ev ha hb with h | h <;> rw [h] <;> decide +kernel

theorem l_b10GapEv2 (a b : Nat) (x : Int) (ha : Ev a x) (hb : Ev b x) (w : World) : Calls Try.prog 17 #[.float .f64 (wd a), .float .f64 (wd b)] w fun e w' => e = .returned (.float .f64 (gapF (wd a) (wd b))) ∧ Dr w w' := by
  have h := gap_ev ha hb
  refine (l_b10Gap (wd a) (wd b) w).mono ?_
  rintro e w' ⟨⟨r, rfl, hr⟩, hd⟩
  rw [cn_of_not (k := .f64) (wd_fine ha).1, cn_of_not (k := .f64) (wd_fine hb).1] at hr
  refine ⟨?_, hd⟩
  rw [cn64_raw hr (by rcases h with h | h <;> rw [h] <;> decide +kernel)]

end Go.Proofs.Ytnhenklopigfnaa
