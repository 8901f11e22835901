/- Contracts: which desks are the same. -/
import Derived.Test.YtfckfdaloamkdaaK35
import Derived.Test.YtfckfdaloamkdaaBk2
namespace Go.Proofs.Ytfckfdaloamkdaa
set_option linter.unusedSimpArgs false
set_option linter.unusedVariables false
set_option maxRecDepth 100000
set_option maxHeartbeats 4000000
open Go.RowKit
attribute [local go_sem] run_store_float run_store_complex alloc_drewN setCell_drewN

/-- Two desks are the same. -/
def dkSame (ss ss' : List Nat) (st : Bool) (sh sh' : List Nat) (x x' : Int) : Bool := (ss == ss') && (st && ((sh == sh') && decide (x = x')))

set_option maxRecDepth 100000 in
theorem s_SameDesk (sv : Value) (ss : List Nat) (l s : Nat) (v : Value) (cs : List Nat) (at_ : Int) (a b c d : Nat) (day : Int) (sv' : Value) (ss' : List Nat) (l' s' : Nat) (v' : Value) (cs' : List Nat) (at_' : Int) (a' b' c' d' : Nat) (day' : Int) (w : World)
    (hl : ∀ x ∈ [l, s, a, b, c, d], x < 4294967296) (hl' : ∀ x ∈ [l', s', a', b', c', d'], x < 4294967296) (hs : SB w sv ss) (hv : SB w v cs) (hs' : SB w sv' ss') (hv' : SB w v' cs') :
    Calls Try.prog 44 #[.agg #[sv, .float .f32 l, .float .f32 s, v, .int .i64 at_, .float .f32 a, .float .f32 b, .float .f32 c, .float .f32 d, .int .i64 day], .agg #[sv', .float .f32 l', .float .f32 s', v', .int .i64 at_', .float .f32 a', .float .f32 b', .float .f32 c', .float .f32 d', .int .i64 day']] w
      fun e w' => e = .returned (.bool (dkSame ss ss' (stSame (cn .f32 l) (cn .f32 l') (cn .f32 s) (cn .f32 s') at_ at_' cs cs') ([a, b, c, d].map (cn .f32)) ([a', b', c', d'].map (cn .f32)) day day')) ∧ Below w.heap.size w w' := by
  have HV := Lib.hid hv
  have HS := Lib.hid hs
  have HV' := Lib.hid hv'
  have HS' := Lib.hid hs'
  have HN := Lib.hid (show ∀ x ∈ [a, b, c, d], x < 4294967296 from fun x hx => hl x (by simp at hx ⊢; omega))
  have HN' := Lib.hid (show ∀ x ∈ [a', b', c', d'], x < 4294967296 from fun x hx => hl' x (by simp at hx ⊢; omega))
  have hl1 : l < 4294967296 := hl l (by simp)
  have hl2 : s < 4294967296 := hl s (by simp)
  have hl3 : l' < 4294967296 := hl' l' (by simp)
  have hl4 : s' < 4294967296 := hl' s' (by simp)
  obtain ⟨ao, co, rfl, hlen⟩ := hv.sl.slice
  obtain ⟨so, do_, rfl, hlens⟩ := hs.sl.slice
  obtain ⟨ao', co', rfl, hlen'⟩ := hv'.sl.slice
  obtain ⟨so', do_', rfl, hlens'⟩ := hs'.sl.slice
  clear hv hs hv' hs' hl hl'
  go_enter Try.func44, Try.ntmps44
  go_wp2_with (first
    | (go_at_call_of 50 (Value.slice so ss.length do_); refine (s_l01SameAll _ _ ss ss' _ (HS.out.keep (by (repeat (first | with_reducible exact Below.refl _ _ | with_reducible assumption | with_reducible refine below_drewN ?_ _ | with_reducible refine Below.drew ?_ | with_reducible refine Below.alloc ?_ (by first | omega | (simp; omega) | (simp; done) | (simp at *; omega)) _ | with_reducible refine Below.setCell ?_ (by first | omega | (simp; omega) | (simp; done) | (simp at *; omega)) _ | refine Below.trans ?_ (Below.mono (by with_reducible assumption) (by first | omega | (simp; omega) | (simp; done) | (simp at *; omega))))))) (HS'.out.keep (by (repeat (first | with_reducible exact Below.refl _ _ | with_reducible assumption | with_reducible refine below_drewN ?_ _ | with_reducible refine Below.drew ?_ | with_reducible refine Below.alloc ?_ (by first | omega | (simp; omega) | (simp; done) | (simp at *; omega)) _ | with_reducible refine Below.setCell ?_ (by first | omega | (simp; omega) | (simp; done) | (simp at *; omega)) _ | refine Below.trans ?_ (Below.mono (by with_reducible assumption) (by first | omega | (simp; omega) | (simp; done) | (simp at *; omega)))))))).mono ?_; rintro z w1 ⟨rfl, n1, rfl⟩)
    | (go_at_call 81; refine (s_l04Same w.heap.size (w.heap.size + 1) l s l' s' hl1 hl2 hl3 hl4 _ _ cs cs' at_ at_' _ (by first | (simp; done) | (simp; omega)) (by first | (simp; done) | (simp; omega)) (by simp) (by simp) (by simp) (by simp) (by simp) (by simp) (by simp) (by simp) (HV.out.keep (by (repeat (first | with_reducible exact Below.refl _ _ | with_reducible assumption | with_reducible refine below_drewN ?_ _ | with_reducible refine Below.drew ?_ | with_reducible refine Below.alloc ?_ (by first | omega | (simp; omega) | (simp; done) | (simp at *; omega)) _ | with_reducible refine Below.setCell ?_ (by first | omega | (simp; omega) | (simp; done) | (simp at *; omega)) _ | refine Below.trans ?_ (Below.mono (by with_reducible assumption) (by first | omega | (simp; omega) | (simp; done) | (simp at *; omega))))))) (HV'.out.keep (by (repeat (first | with_reducible exact Below.refl _ _ | with_reducible assumption | with_reducible refine below_drewN ?_ _ | with_reducible refine Below.drew ?_ | with_reducible refine Below.alloc ?_ (by first | omega | (simp; omega) | (simp; done) | (simp at *; omega)) _ | with_reducible refine Below.setCell ?_ (by first | omega | (simp; omega) | (simp; done) | (simp at *; omega)) _ | refine Below.trans ?_ (Below.mono (by with_reducible assumption) (by first | omega | (simp; omega) | (simp; done) | (simp at *; omega)))))))).mono ?_; rintro z w2 ⟨rfl, hb2⟩; have hz2 := hb2.size; (try simp only [World.size_alloc, World.size_drew, World.heap_drewN, World.size_setCell] at hz2); have hp2 : w.heap.size + 2 ≤ w2.heap.size := (by omega); obtain ⟨hc2, hf2⟩ := bcellN (N := w.heap.size + 2) hb2 (by first | omega | (simp; done) | (simp; omega)))
    | (go_at_call_of 82 (Value.pointer (some ⟨w.heap.size, 5, none⟩)); refine (s_l08Shares w.heap.size a b c d HN.out _ (by omega) (by simp [*]) (by simp [*]) (by simp [*]) (by simp [*])).mono ?_; rintro z w3 ⟨⟨u3, rfl, hu3⟩, hb3⟩; have hz3 := hb3.size; (try simp only [World.size_alloc, World.size_drew, World.heap_drewN, World.size_setCell] at hz3); have hp3 : w.heap.size + 2 ≤ w3.heap.size := (by omega); obtain ⟨hc3, hf3⟩ := bcellN (N := w.heap.size + 2) hb3 (by first | omega | (simp; done) | (simp; omega)); have HU3 := Lib.hid hu3; clear hu3)
    | (go_at_call 82; refine (s_l08Shares (w.heap.size + 1) a' b' c' d' HN'.out _ (by omega) (by simp [*]) (by simp [*]) (by simp [*]) (by simp [*])).mono ?_; rintro z w4 ⟨⟨u4, rfl, hu4⟩, hb4⟩; have hz4 := hb4.size; (try simp only [World.size_alloc, World.size_drew, World.heap_drewN, World.size_setCell] at hz4); have hp4 : w.heap.size + 2 ≤ w4.heap.size := (by omega); obtain ⟨hc4, hf4⟩ := bcellN (N := w.heap.size + 2) hb4 (by first | omega | (simp; done) | (simp; omega)); have HU4 := Lib.hid hu4; clear hu4)
    | (go_at_call 50; refine (s_l01SameAll _ _ ([a, b, c, d].map (cn .f32)) ([a', b', c', d'].map (cn .f32)) _ (HU3.out.keep (by (repeat (first | with_reducible exact Below.refl _ _ | with_reducible assumption | with_reducible refine below_drewN ?_ _ | with_reducible refine Below.drew ?_ | with_reducible refine Below.alloc ?_ (by first | omega | (simp; omega) | (simp; done) | (simp at *; omega)) _ | with_reducible refine Below.setCell ?_ (by first | omega | (simp; omega) | (simp; done) | (simp at *; omega)) _ | refine Below.trans ?_ (Below.mono (by with_reducible assumption) (by first | omega | (simp; omega) | (simp; done) | (simp at *; omega))))))) (HU4.out.keep (by (repeat (first | with_reducible exact Below.refl _ _ | with_reducible assumption | with_reducible refine below_drewN ?_ _ | with_reducible refine Below.drew ?_ | with_reducible refine Below.alloc ?_ (by first | omega | (simp; omega) | (simp; done) | (simp at *; omega)) _ | with_reducible refine Below.setCell ?_ (by first | omega | (simp; omega) | (simp; done) | (simp at *; omega)) _ | refine Below.trans ?_ (Below.mono (by with_reducible assumption) (by first | omega | (simp; omega) | (simp; done) | (simp at *; omega)))))))).mono ?_; rintro z w5 ⟨rfl, n5, rfl⟩))
  all_goals
    go_ret
    refine ⟨ret_bool ?_, by (repeat (first | with_reducible exact Below.refl _ _ | with_reducible assumption | with_reducible refine below_drewN ?_ _ | with_reducible refine Below.drew ?_ | with_reducible refine Below.alloc ?_ (by first | omega | (simp; omega) | (simp; done) | (simp at *; omega)) _ | with_reducible refine Below.setCell ?_ (by first | omega | (simp; omega) | (simp; done) | (simp at *; omega)) _ | refine Below.trans ?_ (Below.mono (by with_reducible assumption) (by first | omega | (simp; omega) | (simp; done) | (simp at *; omega)))))⟩
    first | (simp_all [dkSame]; done) | (simp_all [dkSame]; rfl) | (rw [dkSame]; simp_all; done)

end Go.Proofs.Ytfckfdaloamkdaa
