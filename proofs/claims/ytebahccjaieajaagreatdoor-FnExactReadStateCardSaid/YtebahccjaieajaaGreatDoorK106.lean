/- Contracts: texts of numbers and of shares, by both. -/
import Derived.Test.YtebahccjaieajaaGreatDoorK103
import Derived.Test.YtebahccjaieajaaGreatDoorK105
namespace Go.Proofs.YtebahccjaieajaaGreatDoor
set_option linter.unusedSimpArgs false
set_option linter.unusedVariables false
set_option maxRecDepth 100000
set_option maxHeartbeats 4000000
open Go.RowKit
attribute [local go_sem] run_store_float run_store_complex alloc_drewN setCell_drewN

theorem i_NumbersText (v : Value) (cs : List Nat) (w : World) (hv : SB w v cs) (hl : cs.length ≤ 256) (hdb : w.cell? ⟨8, 15, none⟩ = some (.int .u8 4)) :
    Calls Tryz.prog 25 #[v] w fun e w' => e = .returned (.tuple #[.string (tx (hxAll cs)), .bool true]) ∧ Below w.heap.size w w' := by
  obtain ⟨ao, c, xs, rfl, hxs', hc, hlt, hcell⟩ := hv
  have hlen : xs.length = cs.length := by rw [← hxs', List.length_map]
  have HC := Lib.hid hcell
  have HLT := Lib.hid (fun k (hk : k < xs.length) => hlt _ (List.getElem_mem hk))
  have HG := Lib.hid (fun k (hk : k < xs.length) => show cs.take (k + 1) = cs.take k ++ [cn .f32 xs[k]] by
    subst hxs'
    rw [List.take_succ_eq_append_getElem (by simpa using hk), List.getElem_map])
  have HCS := Lib.hid (show cs.take xs.length = cs by rw [hlen, List.take_length])
  have HN0 := Lib.hid (fun k => show (cs.take k).length ≤ 256 by rw [List.length_take]; omega)
  have HNK := Lib.hid (fun k (hk : k ≤ xs.length) => show (cs.take k).length = k by rw [List.length_take]; omega)
  have hdl := block_lt_of_cell hdb
  clear hcell hlt hxs'
  have hN256 : ¬ (256 : Int) < (xs.length : Int) := by omega
  obtain ⟨N, hN⟩ : ∃ N, N = xs.length := ⟨_, rfl⟩
  have HNN := Lib.hid hN
  rw [← hN] at hN256 hc HCS ⊢
  clear hlen hN
  go_enter Tryz.func25, Tryz.ntmps25
  go_wp2_with fail
  go_loopw [4, 13] (fun o i wr => ∃ k : Nat, k ≤ N ∧ i = .int .i64 (k : Int) ∧ Hid (GO Value.string 9 w.heap.size wr o (hxs (cs.take k))) ∧ Below w.heap.size w wr) (fun _ i _ => N - (intOf i).toNat)
  case atStart => exact ⟨0, Nat.zero_le _, rfl, GO.empty _ _ rfl (Nat.le_refl _), (Below.refl _ _).alloc (Nat.le_refl _) _⟩
  case round =>
    obtain ⟨k, hk, rfl, HO, hb⟩ := hrel
    have hsz := hb.size
    by_cases hgo : k < N
    · have hkx : k < xs.length := by have := HNN.out; omega
      obtain ⟨b, off, rfl, hbl, hc0⟩ := HC.out k hkx
      have hcl := (hb.cell (p := ⟨b, off + k, none⟩) hbl).trans hc0
      have hd2 := (hb.cell (p := ⟨8, 15, none⟩) hdl).trans hdb
      have hlk := HLT.out k hkx
      have HT := Lib.hid (show hxs (cs.take k) ++ [tx (hex8 (cn .f32 xs[k]))] = hxs (cs.take (k + 1)) by rw [hxs_snoc, HG.out k hkx])
      have hnl := HN0.out k
      obtain ⟨x, hx⟩ : ∃ x, x = xs[k] := ⟨_, rfl⟩
      rw [← hx] at hcl hlk HT
      clear hx hc0
      have HH := Lib.hid (i_hexOf x hlk _ hd2)
      clear hd2
      generalize tx (hex8 (cn .f32 x)) = a1 at *
      go_wp2_with fail
      refine HH.out.mono ?_; rintro e w2 ⟨rfl, hb2⟩
      have HO1 := Lib.hid (HO.out.keep hb2)
      have hb3 := hb.trans (hb2.mono hsz)
      have hsz3 := hb3.size
      go_wp2_with (at_builtin; refine wpList_gapp (inj := Value.string) oneStrS strV_one w.heap.size _ _ rfl (GO.alloc HO1.out _) [a1] _ 1 rfl rfl (by intro i u hu; cases i with | zero => (simp only [List.getElem?_cons_zero, Option.some.injEq] at hu; subst hu; simp) | succ i => simp at hu) (by rw [hxs_len]; simp only [List.length_cons, List.length_nil]; omega) (by simp; omega) ?_; intro v2 w3 hown2 hg2; have HO2 := Lib.hid hown2; have HG2 := Lib.hid hg2; clear hown2 hg2)
      refine ⟨⟨k + 1, by omega, by go_num, ?_, (hb3.alloc hsz3 _).grown HG2.out (by simp; omega) HO1.out.own_ge⟩, by simp [intOf]; omega⟩
      show GO _ _ _ _ _ _
      rw [← HT.out]
      exact HO2.out
    · have hkN : k = N := by omega
      subst hkN
      have HO' := Lib.hid (show GO Value.string 9 w.heap.size wr _ (hxs cs) by have h := HO.out; rw [HCS.out] at h; exact h)
      go_wp2_with fail
      refine (i_joined _ cs _ HO'.out.gl (by have := HN0.out cs.length; rw [List.take_length] at this; omega)).mono ?_; rintro e w2 ⟨rfl, hb2⟩
      go_wp2_with fail
      go_ret2
      exact ⟨rfl, hb.trans (hb2.mono hsz)⟩

end Go.Proofs.YtebahccjaieajaaGreatDoor
