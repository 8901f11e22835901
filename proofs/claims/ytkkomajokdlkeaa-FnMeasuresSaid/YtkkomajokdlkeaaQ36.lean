/- Stable sorting: elements with their first places. Plain: no program. -/
import Derived.Test.YtkkomajokdlkeaaQ1
namespace Go.Proofs.Ytkkomajokdlkeaa
set_option linter.unusedSimpArgs false
set_option linter.unusedVariables false
set_option maxRecDepth 100000
set_option maxHeartbeats 4000000
open Go.RowKit

/-- An order as comparisons give it. -/
structure WOrd {α : Type} (lt : α → α → Bool) (ok : α → Prop) : Prop where
  asym : ∀ a b, ok a → ok b → lt a b = true → lt b a = false
  neg : ∀ a b c, ok a → ok b → ok c → lt a b = false → lt b c = false → lt a c = false
section
variable {α : Type} {lt : α → α → Bool} {ok : α → Prop}
/-- x stands ahead of y. -/
def tl (lt : α → α → Bool) (x y : α × Nat) : Prop := lt x.1 y.1 = true ∨ (lt y.1 x.1 = false ∧ x.2 < y.2)
def oks (ok : α → Prop) (ts : List (α × Nat)) : Prop := ∀ x ∈ ts, ok x.1
theorem WOrd.trans (H : WOrd lt ok) {a b c : α} (ha : ok a) (hb : ok b) (hc : ok c) (h1 : lt a b = true) (h2 : lt b c = true) : lt a c = true := by
  cases h : lt a c with
  | true => rfl
  | false =>
    have h3 := H.neg a c b ha hc hb h (H.asym b c hb hc h2)
    rw [h3] at h1; cases h1
theorem tl_trans (H : WOrd lt ok) {x y z : α × Nat} (hx : ok x.1) (hy : ok y.1) (hz : ok z.1) (h1 : tl lt x y) (h2 : tl lt y z) : tl lt x z := by
  rcases h1 with h1 | ⟨h1, h1'⟩
  · rcases h2 with h2 | ⟨h2, h2'⟩
    · exact .inl (H.trans hx hy hz h1 h2)
    · refine .inl ?_
      cases h : lt x.1 z.1 with
      | true => rfl
      | false => rw [H.neg _ _ _ hx hz hy h h2] at h1; cases h1
  · rcases h2 with h2 | ⟨h2, h2'⟩
    · refine .inl ?_
      cases h : lt x.1 z.1 with
      | true => rfl
      | false => rw [H.neg _ _ _ hy hx hz h1 h] at h2; cases h2
    · exact .inr ⟨H.neg _ _ _ hz hy hx h2 h1, by omega⟩
theorem tl_asym (H : WOrd lt ok) {x y : α × Nat} (hx : ok x.1) (hy : ok y.1) (h1 : tl lt x y) (h2 : tl lt y x) : False := by
  rcases h1 with h1 | ⟨h1, h1'⟩
  · rcases h2 with h2 | ⟨h2, h2'⟩
    · rw [H.asym _ _ hx hy h1] at h2; cases h2
    · rw [h2] at h1; cases h1
  · rcases h2 with h2 | ⟨h2, h2'⟩
    · rw [h1] at h2; cases h2
    · omega
def Srt (lt : α → α → Bool) (ts : List (α × Nat)) : Prop := ts.Pairwise (tl lt)
/-- The places of the first come ahead of those of the second. -/
def Bef (L R : List (α × Nat)) : Prop := ∀ x ∈ L, ∀ y ∈ R, x.2 < y.2
def Alw (lt : α → α → Bool) (L R : List (α × Nat)) : Prop := ∀ x ∈ L, ∀ y ∈ R, tl lt x y
/-- Two sorted lists of the same elements are one. -/
theorem srt_unique (H : WOrd lt ok) {L R : List (α × Nat)} (ho : oks ok L) (h1 : Srt lt L) (h2 : Srt lt R) (hp : L.Perm R) : L = R :=
  List.Perm.eq_of_pairwise (le := tl lt) (fun a b ha hb hab hba => (tl_asym H (ho a ha) (ho b (hp.symm.subset hb)) hab hba).elim) h1 h2 hp
theorem srt_append {L R : List (α × Nat)} (h1 : Srt lt L) (h2 : Srt lt R) (h3 : Alw lt L R) : Srt lt (L ++ R) := List.pairwise_append.2 ⟨h1, h2, h3⟩
theorem srt_split {L R : List (α × Nat)} (h : Srt lt (L ++ R)) : Srt lt L ∧ Srt lt R ∧ Alw lt L R := List.pairwise_append.1 h
theorem oks_append {L R : List (α × Nat)} : oks ok (L ++ R) ↔ oks ok L ∧ oks ok R := by
  constructor
  · exact fun h => ⟨fun x hx => h x (List.mem_append_left _ hx), fun x hx => h x (List.mem_append_right _ hx)⟩
  · rintro ⟨h1, h2⟩ x hx
    rcases List.mem_append.1 hx with h | h
    · exact h1 x h
    · exact h2 x h
theorem bef_lt {x y : α × Nat} (h : x.2 < y.2) (hn : lt y.1 x.1 = false) : tl lt x y := .inr ⟨hn, h⟩
/-- All of the one ahead of all of the other, by the last and the first. -/
theorem alw_of (H : WOrd lt ok) {L R : List (α × Nat)} (hL : oks ok L) (hR : oks ok R) (h1 : Srt lt L) (h2 : Srt lt R) (h : ∀ x y, L.getLast? = some x → R.head? = some y → tl lt x y) : Alw lt L R := by
  intro x hx y hy
  obtain ⟨i, z, rfl⟩ : ∃ i z, L = i ++ [z] := by
    rcases List.eq_nil_or_concat L with e | ⟨i, z, e⟩
    · rw [e] at hx; cases hx
    · exact ⟨i, z, by rw [e, List.concat_eq_append]⟩
  obtain ⟨u, r, rfl⟩ : ∃ u r, R = u :: r := by
    cases R with
    | nil => cases hy
    | cons u r => exact ⟨u, r, rfl⟩
  have hzu := h z u (by simp) rfl
  have okz : ok z.1 := hL z (by simp)
  have oku : ok u.1 := hR u (by simp)
  have hxz : x = z ∨ tl lt x z := by
    rcases List.mem_append.1 hx with e | e
    · exact .inr ((srt_split h1).2.2 x e z (by simp))
    · exact .inl (List.mem_singleton.1 e)
  have huy : y = u ∨ tl lt u y := by
    rcases List.mem_cons.1 hy with e | e
    · exact .inl e
    · exact .inr ((List.pairwise_cons.1 h2).1 y e)
  have hxu : tl lt x u := by
    rcases hxz with rfl | e
    · exact hzu
    · exact tl_trans H (hL x hx) okz oku e hzu
  rcases huy with rfl | e
  · exact hxu
  · exact tl_trans H (hL x hx) oku (hR y hy) hxu e
theorem bef_sub {L R L' R' : List (α × Nat)} (h : Bef L R) (hL : ∀ x ∈ L', x ∈ L) (hR : ∀ y ∈ R', y ∈ R) : Bef L' R' := fun x hx y hy => h x (hL x hx) y (hR y hy)
/-- Where symMerge cuts both parts: the upper part of the left and the lower part of the right are exchanged. -/
theorem sym_cut (H : WOrd lt ok) {L R : List (α × Nat)} (hL : oks ok L) (hR : oks ok R) (h1 : Srt lt L) (h2 : Srt lt R) (hb : Bef L R) {s t : Nat} (hs : s ≤ L.length) (ht : t ≤ R.length)
    (c1 : s = 0 ∨ t = R.length ∨ ∃ x y, L[s - 1]? = some x ∧ R[t]? = some y ∧ lt y.1 x.1 = false)
    (c2 : t = 0 ∨ s = L.length ∨ ∃ x y, L[s]? = some x ∧ R[t - 1]? = some y ∧ lt y.1 x.1 = true) :
    Alw lt (L.take s) (R.drop t) ∧ Alw lt (R.take t) (L.drop s) := by
  have e1 := List.take_append_drop s L
  have e2 := List.take_append_drop t R
  rw [← e1] at h1 hL
  rw [← e2] at h2 hR
  obtain ⟨h1a, h1b, h1c⟩ := srt_split h1
  obtain ⟨h2a, h2b, h2c⟩ := srt_split h2
  obtain ⟨hLa, hLb⟩ := oks_append.1 hL
  obtain ⟨hRa, hRb⟩ := oks_append.1 hR
  constructor
  · refine alw_of H hLa hRb h1a h2b fun x y hx hy => ?_
    rw [List.getLast?_eq_getElem?, List.length_take, Nat.min_eq_left hs] at hx
    rw [List.head?_eq_getElem?, List.getElem?_drop, Nat.add_zero] at hy
    rcases c1 with c | c | ⟨x', y', hx', hy', hn⟩
    · rw [c] at hx; simp at hx
    · rw [c] at hy; simp at hy
    · have hs0 : 0 < s := by
        rcases Nat.eq_zero_or_pos s with e | e
        · rw [e] at hx; simp at hx
        · exact e
      rw [List.getElem?_take_of_lt (by omega)] at hx
      rw [hx] at hx'; rw [hy] at hy'
      injection hx' with hx'; injection hy' with hy'
      subst hx' hy'
      refine bef_lt (hb x (List.mem_of_getElem? hx) y (List.mem_of_getElem? hy)) hn
  · refine alw_of H hRa hLb h2a h1b fun y x hy hx => ?_
    rw [List.getLast?_eq_getElem?, List.length_take, Nat.min_eq_left ht] at hy
    rw [List.head?_eq_getElem?, List.getElem?_drop, Nat.add_zero] at hx
    rcases c2 with c | c | ⟨x', y', hx', hy', hn⟩
    · rw [c] at hy; simp at hy
    · rw [c] at hx; simp at hx
    · have ht0 : 0 < t := by
        rcases Nat.eq_zero_or_pos t with e | e
        · rw [e] at hy; simp at hy
        · exact e
      rw [List.getElem?_take_of_lt (by omega)] at hy
      rw [hx] at hx'; rw [hy] at hy'
      injection hx' with hx'; injection hy' with hy'
      subst hx' hy'
      exact .inl hn
/-- .. and what comes of it when both halves are merged. -/
theorem sym_join (H : WOrd lt ok) {L1 L2 R1 R2 M1 M2 : List (α × Nat)} (hM1 : Srt lt M1) (hM2 : Srt lt M2) (p1 : M1.Perm (L1 ++ R1)) (p2 : M2.Perm (L2 ++ R2))
    (a1 : Alw lt L1 L2) (a2 : Alw lt L1 R2) (a3 : Alw lt R1 L2) (a4 : Alw lt R1 R2) : Srt lt (M1 ++ M2) ∧ (M1 ++ M2).Perm ((L1 ++ L2) ++ (R1 ++ R2)) := by
  refine ⟨srt_append hM1 hM2 fun x hx y hy => ?_, ?_⟩
  · rcases List.mem_append.1 (p1.subset hx) with h | h <;> rcases List.mem_append.1 (p2.subset hy) with h' | h'
    · exact a1 x h y h'
    · exact a2 x h y h'
    · exact a3 x h y h'
    · exact a4 x h y h'
  · refine (p1.append p2).trans ?_
    rw [List.append_assoc, List.append_assoc]
    refine List.Perm.append_left _ ?_
    rw [← List.append_assoc, ← List.append_assoc]
    exact List.Perm.append_right _ List.perm_append_comm
/-- The elements with their places. -/
def tagged (xs : List α) : List (α × Nat) := xs.zipIdx
theorem tagged_fst (xs : List α) : (tagged xs).map Prod.fst = xs := by simp [tagged]
end

end Go.Proofs.Ytkkomajokdlkeaa

namespace Go.Proofs.Ytkkomajokdlkeaa
set_option linter.unusedSimpArgs false
set_option linter.unusedVariables false
set_option maxRecDepth 100000
set_option maxHeartbeats 4000000
open Go.RowKit
set_option linter.unusedSimpArgs false
set_option linter.unusedVariables false

section
variable {α : Type} {lt : α → α → Bool} {ok : α → Prop}
/-- No two have the same place. -/
def Nd (ts : List (α × Nat)) : Prop := ts.Pairwise fun x y => x.2 ≠ y.2
def tlb (lt : α → α → Bool) (x y : α × Nat) : Bool := lt x.1 y.1 || (!lt y.1 x.1 && decide (x.2 < y.2))
theorem tlb_iff (x y : α × Nat) : tlb lt x y = true ↔ tl lt x y := by
  simp [tlb, tl]
theorem tl_total (H : WOrd lt ok) {x y : α × Nat} (hx : ok x.1) (hy : ok y.1) (hn : x.2 ≠ y.2) (h : ¬ tl lt x y) : tl lt y x := by
  cases h1 : lt y.1 x.1 with
  | true => exact .inl h1
  | false =>
    cases h2 : lt x.1 y.1 with
    | true => exact (h (.inl h2)).elim
    | false =>
      rcases Nat.lt_or_ge y.2 x.2 with g | g
      · exact .inr ⟨h2, g⟩
      · exact (h (.inr ⟨h1, by omega⟩)).elim
def insT (lt : α → α → Bool) (x : α × Nat) : List (α × Nat) → List (α × Nat)
  | [] => [x]
  | y :: ys => if tlb lt x y then x :: y :: ys else y :: insT lt x ys
theorem insT_perm (x : α × Nat) : ∀ ys, (insT lt x ys).Perm (x :: ys)
  | [] => List.Perm.refl _
  | y :: ys => by
    rw [insT]
    split
    · exact List.Perm.refl _
    · exact ((insT_perm x ys).cons y).trans (List.Perm.swap x y ys)
theorem insT_srt (H : WOrd lt ok) (x : α × Nat) : ∀ ys, oks ok (x :: ys) → (∀ y ∈ ys, x.2 ≠ y.2) → Srt lt ys → Srt lt (insT lt x ys)
  | [], _, _, _ => by simp [insT, Srt]
  | y :: ys, ho, hn, h => by
    have hx : ok x.1 := ho x (by simp)
    have hy : ok y.1 := ho y (by simp)
    obtain ⟨h1, h2⟩ := List.pairwise_cons.1 h
    rw [insT]
    split
    · rename_i ht
      have ht := (tlb_iff x y).1 ht
      refine List.pairwise_cons.2 ⟨fun z hz => ?_, h⟩
      rcases List.mem_cons.1 hz with e | e
      · rw [e]; exact ht
      · exact tl_trans H hx hy (ho z (by simp [e])) ht (h1 z e)
    · rename_i ht
      have ht : ¬ tl lt x y := fun e => ht ((tlb_iff x y).2 e)
      have hyx := tl_total H hx hy (hn y (by simp)) ht
      refine List.pairwise_cons.2 ⟨fun z hz => ?_, insT_srt H x ys (fun z hz => ho z (by rcases List.mem_cons.1 hz with e | e <;> simp [e])) (fun z hz => hn z (by simp [hz])) h2⟩
      rcases List.mem_cons.1 ((insT_perm x ys).subset hz) with e | e
      · rw [e]; exact hyx
      · exact h1 z e
/-- The elements in their one order. -/
def srtOf (lt : α → α → Bool) (ts : List (α × Nat)) : List (α × Nat) := ts.foldr (insT lt) []
theorem srtOf_perm (ts : List (α × Nat)) : (srtOf lt ts).Perm ts := by
  induction ts with
  | nil => exact List.Perm.refl _
  | cons x xs ih => exact (insT_perm x _).trans (ih.cons x)
theorem srtOf_srt (H : WOrd lt ok) (ts : List (α × Nat)) (ho : oks ok ts) (hn : Nd ts) : Srt lt (srtOf lt ts) := by
  induction ts with
  | nil => simp [srtOf, Srt]
  | cons x xs ih =>
    obtain ⟨h1, h2⟩ := List.pairwise_cons.1 hn
    have ho2 : oks ok xs := fun z hz => ho z (by simp [hz])
    refine insT_srt H x _ (fun z hz => ?_) (fun y hy => h1 y ((srtOf_perm xs).subset hy)) (ih ho2 h2)
    rcases List.mem_cons.1 hz with e | e
    · exact ho z (by simp [e])
    · exact ho2 z ((srtOf_perm xs).subset e)
theorem srtOf_length (ts : List (α × Nat)) : (srtOf lt ts).length = ts.length := (srtOf_perm ts).length_eq
theorem oks_perm {L R : List (α × Nat)} (h : L.Perm R) (ho : oks ok R) : oks ok L := fun x hx => ho x (h.subset hx)
theorem srt_is (H : WOrd lt ok) {ts M : List (α × Nat)} (ho : oks ok ts) (hn : Nd ts) (h : Srt lt M) (hp : M.Perm ts) : M = srtOf lt ts :=
  srt_unique H (oks_perm hp ho) h (srtOf_srt H ts ho hn) (hp.trans (srtOf_perm ts).symm)
theorem nd_perm {L R : List (α × Nat)} (h : L.Perm R) (hn : Nd R) : Nd L := (List.Perm.pairwise_iff (R := fun x y : α × Nat => x.2 ≠ y.2) (fun {a b} (hab : a.2 ≠ b.2) => fun e => hab e.symm) h).2 hn
theorem srtOf_congr (H : WOrd lt ok) {L R : List (α × Nat)} (h : L.Perm R) (ho : oks ok R) (hn : Nd R) : srtOf lt L = srtOf lt R :=
  srt_is H ho hn (srtOf_srt H L (oks_perm h ho) (nd_perm h hn)) ((srtOf_perm L).trans h)
theorem srtOf_of_srt (H : WOrd lt ok) {L : List (α × Nat)} (ho : oks ok L) (hn : Nd L) (h : Srt lt L) : srtOf lt L = L := (srt_is H ho hn h (List.Perm.refl _)).symm
theorem nd_append {L R : List (α × Nat)} (h : Nd (L ++ R)) : Nd L ∧ Nd R := ⟨(List.pairwise_append.1 h).1, (List.pairwise_append.1 h).2.1⟩
theorem nd_of_bef {L R : List (α × Nat)} (h1 : Nd L) (h2 : Nd R) (hb : Bef L R) : Nd (L ++ R) := List.pairwise_append.2 ⟨h1, h2, fun x hx y hy => by have := hb x hx y hy; omega⟩
theorem tagged_nd (xs : List α) : Nd (tagged xs) := by
  unfold Nd tagged
  rw [List.pairwise_iff_getElem]
  intro i j hi hj hij
  simp only [List.getElem_zipIdx]
  omega
theorem bef_tagged (xs ys : List α) (n : Nat) : Bef (xs.zipIdx n) (ys.zipIdx (n + xs.length)) := by
  intro x hx y hy
  have h1 := List.snd_lt_add_of_mem_zipIdx hx
  have h2 := List.le_snd_of_mem_zipIdx hy
  omega
theorem oks_tagged {xs : List α} (h : ∀ x ∈ xs, ok x) (n : Nat) : oks ok (xs.zipIdx n) := by
  intro x hx
  exact h _ (by obtain ⟨a, b⟩ := x; exact List.fst_mem_of_mem_zipIdx hx)
/-- The values in their order. -/
def sortF (lt : α → α → Bool) (xs : List α) : List α := (srtOf lt (tagged xs)).map Prod.fst
theorem sortF_length (xs : List α) : (sortF lt xs).length = xs.length := by simp [sortF, srtOf_length, tagged]
theorem sortF_perm (xs : List α) : (sortF lt xs).Perm xs := by
  have h := (srtOf_perm (lt := lt) (tagged xs)).map Prod.fst
  rw [tagged_fst] at h
  exact h
end

end Go.Proofs.Ytkkomajokdlkeaa

namespace Go.Proofs.Ytkkomajokdlkeaa
set_option linter.unusedSimpArgs false
set_option linter.unusedVariables false
set_option maxRecDepth 100000
set_option maxHeartbeats 4000000
open Go.RowKit
set_option linter.unusedSimpArgs false
set_option linter.unusedVariables false

section
variable {α : Type} {lt : α → α → Bool} {ok : α → Prop}
/-- Two neighbours are exchanged. -/
def swp (d : α) (X : List α) (j : Nat) : List α := (X.set (j + 1) (X.getD j d)).set j (X.getD (j + 1) d)
theorem swp_length (d : α) (X : List α) (j : Nat) : (swp d X j).length = X.length := by simp [swp]
theorem so_getD (d : α) (P : List α) (x : α) (S : List α) : (P ++ x :: S).getD P.length d = x := by simp [List.getD_eq_getElem?_getD]
theorem so_getD1 (d : α) (P : List α) (x y : α) (S : List α) : (P ++ x :: y :: S).getD (P.length + 1) d = y := by
  rw [List.getD_eq_getElem?_getD, List.getElem?_append_right (by omega), Nat.add_sub_cancel_left]; rfl
theorem swp_app (d : α) (P S : List α) (x y : α) : swp d (P ++ x :: y :: S) P.length = P ++ y :: x :: S := by
  unfold swp
  rw [so_getD, so_getD1, List.set_append_right _ _ (by omega), Nat.add_sub_cancel_left, List.set_append_right _ _ (by omega), Nat.sub_self]
  rfl
def insA (lt : α → α → Bool) (d : α) (a : Nat) : List α → Nat → List α
  | X, 0 => X
  | X, t + 1 => if lt (X.getD (a + t + 1) d) (X.getD (a + t) d) then insA lt d a (swp d X (a + t)) t else X
theorem insA_length (d : α) (a : Nat) : ∀ (t : Nat) (X : List α), (insA lt d a X t).length = X.length
  | 0, _ => rfl
  | t + 1, X => by rw [insA]; split; rw [insA_length d a t, swp_length]; rfl
/-- x comes in from the right, D being the others from the right. -/
def insV (l : α → α → Bool) (x : α) : List α → List α
  | [] => [x]
  | y :: ys => if l x y then y :: insV l x ys else x :: y :: ys
theorem insV_map {β : Type} (f : α → β) (l : α → α → Bool) (l' : β → β → Bool) (h : ∀ a b, l' (f a) (f b) = l a b) (x : α) : ∀ ys, (insV l x ys).map f = insV l' (f x) (ys.map f)
  | [] => rfl
  | y :: ys => by
    show (insV l x (y :: ys)).map f = insV l' (f x) (f y :: ys.map f)
    rw [insV, insV, h]
    split
    · rw [List.map_cons, insV_map f l l' h x ys]
    · rfl
theorem insV_perm (l : α → α → Bool) (x : α) : ∀ ys, (insV l x ys).Perm (x :: ys)
  | [] => List.Perm.refl _
  | y :: ys => by
    rw [insV]
    split
    · exact ((insV_perm l x ys).cons y).trans (List.Perm.swap x y ys)
    · exact List.Perm.refl _
def insR (l : α → α → Bool) (x : α) (A : List α) : List α := (insV l x A.reverse).reverse
theorem insA_eq (d : α) (P : List α) (x : α) : ∀ (n : Nat) (A S : List α), A.length = n → insA lt d P.length (P ++ (A ++ x :: S)) n = P ++ (insR lt x A ++ S)
  | 0, A, S, h => by
    have : A = [] := List.eq_nil_of_length_eq_zero h
    subst this
    rfl
  | n + 1, A, S, h => by
    obtain ⟨A', y, rfl⟩ : ∃ A' y, A = A' ++ [y] := by
      rcases List.eq_nil_or_concat A with e | ⟨i, z, e⟩
      · subst e; simp at h
      · exact ⟨i, z, by rw [e, List.concat_eq_append]⟩
    have hn : A'.length = n := by simpa using h
    have e0 : P ++ (A' ++ [y] ++ x :: S) = (P ++ A') ++ y :: x :: S := by simp
    have e1 : P.length + n = (P ++ A').length := by simp [hn]
    rw [insA, e0, e1, so_getD1, so_getD]
    unfold insR
    rw [List.reverse_append, List.reverse_singleton, List.singleton_append, insV]
    split
    · rw [swp_app]
      have e2 : (P ++ A') ++ x :: y :: S = P ++ (A' ++ x :: (y :: S)) := by simp
      rw [e2, insA_eq d P x n A' (y :: S) hn]
      unfold insR
      simp
    · simp
/-- The places grow. -/
def Inc (ts : List (α × Nat)) : Prop := ts.Pairwise fun x y => x.2 < y.2
theorem Inc.nd {ts : List (α × Nat)} (h : Inc ts) : Nd ts := h.imp (fun h => by omega)
def ltT (lt : α → α → Bool) (x y : α × Nat) : Bool := lt x.1 y.1
theorem insV_srt (H : WOrd lt ok) (x : α × Nat) : ∀ ys, oks ok (x :: ys) → (∀ y ∈ ys, y.2 < x.2) → ys.Pairwise (fun a b => tl lt b a) → (insV (ltT lt) x ys).Pairwise (fun a b => tl lt b a)
  | [], _, _, _ => by simp [insV]
  | y :: ys, ho, hn, h => by
    obtain ⟨h1, h2⟩ := List.pairwise_cons.1 h
    have hx : ok x.1 := ho x (by simp)
    have hy : ok y.1 := ho y (by simp)
    rw [insV]
    split
    · rename_i hl
      refine List.pairwise_cons.2 ⟨fun z hz => ?_, insV_srt H x ys (fun z hz => ho z (by rcases List.mem_cons.1 hz with e | e <;> simp [e])) (fun z hz => hn z (by simp [hz])) h2⟩
      rcases List.mem_cons.1 ((insV_perm _ x ys).subset hz) with e | e
      · rw [e]; exact .inl hl
      · exact h1 z e
    · rename_i hl
      have hl : lt x.1 y.1 = false := by simpa [ltT] using hl
      have hyx : tl lt y x := .inr ⟨hl, hn y (by simp)⟩
      refine List.pairwise_cons.2 ⟨fun z hz => ?_, h⟩
      rcases List.mem_cons.1 hz with e | e
      · rw [e]; exact hyx
      · exact tl_trans H (ho z (by simp [e])) hy hx (h1 z e) hyx
theorem insR_perm (l : α → α → Bool) (x : α) (A : List α) : (insR l x A).Perm (A ++ [x]) := by
  unfold insR
  refine (List.reverse_perm _).trans ((insV_perm l x _).trans ?_)
  exact ((List.reverse_perm A).cons x).trans (List.perm_append_comm (l₁ := [x]))
theorem insR_srt (H : WOrd lt ok) (x : α × Nat) (A : List (α × Nat)) (ho : oks ok (A ++ [x])) (hb : ∀ y ∈ A, y.2 < x.2) (h : Srt lt A) : Srt lt (insR (ltT lt) x A) := by
  unfold insR Srt
  rw [List.pairwise_reverse]
  refine insV_srt H x _ (fun z hz => ho z ?_) (fun y hy => hb y (by simpa using hy)) ?_
  · rcases List.mem_cons.1 hz with e | e
    · simp [e]
    · simp at e; simp [e]
  · rw [List.pairwise_reverse]; exact h
theorem insR_map (x : α × Nat) (A : List (α × Nat)) : (insR (ltT lt) x A).map Prod.fst = insR lt x.1 (A.map Prod.fst) := by
  unfold insR
  rw [List.map_reverse, insV_map Prod.fst (ltT lt) lt (fun _ _ => rfl), List.map_reverse]
def isortA (lt : α → α → Bool) (d : α) (a : Nat) (X : List α) : Nat → List α
  | 0 => X
  | c + 1 => insA lt d a (isortA lt d a X c) (c + 1)
theorem isortA_length (d : α) (a : Nat) (X : List α) : ∀ c, (isortA lt d a X c).length = X.length
  | 0 => rfl
  | c + 1 => by rw [isortA, insA_length, isortA_length d a X c]
/-- Insertions sort a part. -/
theorem isortA_eq (H : WOrd lt ok) (d : α) (P L S : List (α × Nat)) (ho : oks ok L) (hi : Inc L) : ∀ c, c < L.length →
    isortA lt d P.length ((P ++ (L ++ S)).map Prod.fst) c = (P ++ (srtOf lt (L.take (c + 1)) ++ (L.drop (c + 1) ++ S))).map Prod.fst
  | 0, hc => by
    obtain ⟨x, xs, rfl⟩ : ∃ x xs, L = x :: xs := by
      cases L with
      | nil => simp at hc
      | cons x xs => exact ⟨x, xs, rfl⟩
    simp [isortA, srtOf, insT]
  | c + 1, hc => by
    rw [isortA, isortA_eq H d P L S ho hi c (by omega)]
    have hd : L.drop (c + 1) = L[c + 1] :: L.drop (c + 2) := List.drop_eq_getElem_cons hc
    have ht : L.take (c + 2) = L.take (c + 1) ++ [L[c + 1]] := by rw [List.take_succ_eq_append_getElem hc]
    have hlen : (srtOf lt (L.take (c + 1))).length = c + 1 := by rw [srtOf_length, List.length_take]; omega
    have hsub : ∀ y ∈ srtOf lt (L.take (c + 1)), y ∈ L.take (c + 1) := fun y hy => (srtOf_perm _).subset hy
    have hi2 : Inc (L.take (c + 1) ++ [L[c + 1]]) := by rw [← ht]; exact List.Pairwise.sublist (List.take_sublist _ _) hi
    have ho2 : oks ok (L.take (c + 1) ++ [L[c + 1]]) := by rw [← ht]; exact fun x hx => ho x (List.mem_of_mem_take hx)
    have hnd := (List.pairwise_append.1 hi2)
    have e : insR (ltT lt) L[c + 1] (srtOf lt (L.take (c + 1))) = srtOf lt (L.take (c + 2)) := by
      refine srt_is H (by rw [ht]; exact ho2) (by rw [ht]; exact Inc.nd hi2) (insR_srt H _ _ ?_ ?_ ?_) ?_
      · intro z hz
        rcases List.mem_append.1 hz with e | e
        · exact ho2 z (List.mem_append_left _ (hsub z e))
        · exact ho2 z (List.mem_append_right _ e)
      · exact fun y hy => hnd.2.2 y (hsub y hy) _ (by simp)
      · exact srtOf_srt H _ (fun x hx => ho2 x (List.mem_append_left _ hx)) (Inc.nd hnd.1)
      · rw [ht]; exact (insR_perm _ _ _).trans (List.Perm.append_right _ (srtOf_perm _))
    have hx : (P ++ (srtOf lt (L.take (c + 1)) ++ (L.drop (c + 1) ++ S))).map Prod.fst = P.map Prod.fst ++ ((srtOf lt (L.take (c + 1))).map Prod.fst ++ L[c + 1].1 :: (L.drop (c + 2) ++ S).map Prod.fst) := by
      rw [hd]; simp only [List.map_append, List.map_cons, List.cons_append]
    have := insA_eq (lt := lt) d (P.map Prod.fst) L[c + 1].1 (c + 1) ((srtOf lt (L.take (c + 1))).map Prod.fst) ((L.drop (c + 2) ++ S).map Prod.fst) (by simp [hlen])
    rw [List.length_map] at this
    rw [hx, this, ← insR_map, e]
    simp
theorem alw_take_drop {R : List (α × Nat)} (h : Srt lt R) (t : Nat) : Alw lt (R.take t) (R.drop t) := by
  rw [← List.take_append_drop t R] at h; exact (srt_split h).2.2
theorem srt_take {R : List (α × Nat)} (h : Srt lt R) (t : Nat) : Srt lt (R.take t) := List.Pairwise.sublist (List.take_sublist _ _) h
theorem srt_drop {R : List (α × Nat)} (h : Srt lt R) (t : Nat) : Srt lt (R.drop t) := List.Pairwise.sublist (List.drop_sublist _ _) h
/-- One element goes into the right part. -/
theorem mrg_left (H : WOrd lt ok) {x : α × Nat} {R : List (α × Nat)} (ho : oks ok ([x] ++ R)) (hn : Nd ([x] ++ R)) (hR : Srt lt R) (hb : Bef [x] R) {t : Nat} (ht : t ≤ R.length)
    (c1 : t = R.length ∨ ∃ y, R[t]? = some y ∧ lt y.1 x.1 = false) (c2 : t = 0 ∨ ∃ y, R[t - 1]? = some y ∧ lt y.1 x.1 = true) : R.take t ++ x :: R.drop t = srtOf lt ([x] ++ R) := by
  obtain ⟨ho1, ho2⟩ := oks_append.1 ho
  have hS : Srt lt [x] := by simp [Srt]
  have q1 := (sym_cut H ho1 ho2 hS hR hb (s := 0) (t := t) (by simp) ht (.inl rfl) (by
    rcases c2 with c | ⟨y, h1, h2⟩
    · exact .inl c
    · exact .inr (.inr ⟨x, y, rfl, h1, h2⟩))).2
  have q2 := (sym_cut H ho1 ho2 hS hR hb (s := 1) (t := t) (by simp) ht (by
    rcases c1 with c | ⟨y, h1, h2⟩
    · exact .inr (.inl c)
    · exact .inr (.inr ⟨x, y, rfl, h1, h2⟩)) (.inr (.inl rfl))).1
  refine srt_is H ho hn ?_ ?_
  · refine srt_append (srt_take hR t) ?_ ?_
    · refine List.pairwise_cons.2 ⟨fun z hz => q2 x (by simp) z hz, srt_drop hR t⟩
    · intro u hu z hz
      rcases List.mem_cons.1 hz with e | e
      · rw [e]; exact q1 u hu x (by simp)
      · exact alw_take_drop hR t u hu z e
  · refine List.perm_middle.trans ?_
    rw [List.take_append_drop]; exact List.Perm.refl _
/-- One element goes into the left part. -/
theorem mrg_right (H : WOrd lt ok) {y : α × Nat} {L : List (α × Nat)} (ho : oks ok (L ++ [y])) (hn : Nd (L ++ [y])) (hL : Srt lt L) (hb : Bef L [y]) {s : Nat} (hs : s ≤ L.length)
    (c1 : s = 0 ∨ ∃ x, L[s - 1]? = some x ∧ lt y.1 x.1 = false) (c2 : s = L.length ∨ ∃ x, L[s]? = some x ∧ lt y.1 x.1 = true) : L.take s ++ y :: L.drop s = srtOf lt (L ++ [y]) := by
  obtain ⟨ho1, ho2⟩ := oks_append.1 ho
  have hS : Srt lt [y] := by simp [Srt]
  have q1 := (sym_cut H ho1 ho2 hL hS hb (s := s) (t := 0) hs (by simp) (by
    rcases c1 with c | ⟨x, h1, h2⟩
    · exact .inl c
    · exact .inr (.inr ⟨x, y, h1, rfl, h2⟩)) (.inl rfl)).1
  have q2 := (sym_cut H ho1 ho2 hL hS hb (s := s) (t := 1) hs (by simp) (.inr (.inl rfl)) (by
    rcases c2 with c | ⟨x, h1, h2⟩
    · exact .inr (.inl c)
    · exact .inr (.inr ⟨x, y, h1, rfl, h2⟩))).2
  refine srt_is H ho hn ?_ ?_
  · refine srt_append (srt_take hL s) ?_ ?_
    · refine List.pairwise_cons.2 ⟨fun z hz => q2 y (by simp) z hz, srt_drop hL s⟩
    · intro u hu z hz
      rcases List.mem_cons.1 hz with e | e
      · rw [e]; exact q1 u hu y (by simp)
      · exact alw_take_drop hL s u hu z e
  · refine List.perm_middle.trans ?_
    rw [List.take_append_drop]; exact (List.perm_append_comm (l₁ := [y]))
theorem bef_take_drop {L R : List (α × Nat)} (hb : Bef L R) (s t : Nat) : Bef (L.take s) (R.take t) ∧ Bef (L.drop s) (R.drop t) :=
  ⟨bef_sub hb (fun x hx => List.mem_of_mem_take hx) (fun y hy => List.mem_of_mem_take hy), bef_sub hb (fun x hx => List.mem_of_mem_drop hx) (fun y hy => List.mem_of_mem_drop hy)⟩
/-- Both parts are cut, the inner pieces exchanged, and the halves merged. -/
theorem mrg_both (H : WOrd lt ok) {L R : List (α × Nat)} (ho : oks ok (L ++ R)) (hn : Nd (L ++ R)) (hL : Srt lt L) (hR : Srt lt R) (hb : Bef L R) {s t : Nat} (hs : s ≤ L.length) (ht : t ≤ R.length)
    (c1 : s = 0 ∨ t = R.length ∨ ∃ x y, L[s - 1]? = some x ∧ R[t]? = some y ∧ lt y.1 x.1 = false)
    (c2 : t = 0 ∨ s = L.length ∨ ∃ x y, L[s]? = some x ∧ R[t - 1]? = some y ∧ lt y.1 x.1 = true) :
    srtOf lt (L.take s ++ R.take t) ++ srtOf lt (L.drop s ++ R.drop t) = srtOf lt (L ++ R) := by
  obtain ⟨ho1, ho2⟩ := oks_append.1 ho
  obtain ⟨hn1, hn2⟩ := nd_append hn
  obtain ⟨q1, q2⟩ := sym_cut H ho1 ho2 hL hR hb hs ht c1 c2
  have oL1 : oks ok (L.take s ++ R.take t) := oks_append.2 ⟨fun x hx => ho1 x (List.mem_of_mem_take hx), fun x hx => ho2 x (List.mem_of_mem_take hx)⟩
  have oL2 : oks ok (L.drop s ++ R.drop t) := oks_append.2 ⟨fun x hx => ho1 x (List.mem_of_mem_drop hx), fun x hx => ho2 x (List.mem_of_mem_drop hx)⟩
  have nL1 : Nd (L.take s ++ R.take t) := nd_of_bef (List.Pairwise.sublist (List.take_sublist _ _) hn1) (List.Pairwise.sublist (List.take_sublist _ _) hn2) (bef_take_drop hb s t).1
  have nL2 : Nd (L.drop s ++ R.drop t) := nd_of_bef (List.Pairwise.sublist (List.drop_sublist _ _) hn1) (List.Pairwise.sublist (List.drop_sublist _ _) hn2) (bef_take_drop hb s t).2
  obtain ⟨j1, j2⟩ := sym_join H (srtOf_srt H _ oL1 nL1) (srtOf_srt H _ oL2 nL2) (srtOf_perm _) (srtOf_perm _) (alw_take_drop hL s) q1 q2 (alw_take_drop hR t)
  refine srt_is H ho hn j1 ?_
  rw [List.take_append_drop, List.take_append_drop] at j2
  exact j2
end

end Go.Proofs.Ytkkomajokdlkeaa
