/- A region that draws its order, some of whose operations yield one of several values: one walk of the lexical order serves every order. Plain: no program. (Built after the kit's own theorem for operations that yield one value.) -/
import Derived.Test.YtkkomajokdlkeaaFl
import Derived.Still
import Derived.Deep.Quiet
namespace Go.Proofs.Ytkkomajokdlkeaa
set_option linter.unusedSimpArgs false
set_option linter.unusedVariables false
set_option maxRecDepth 100000
set_option maxHeartbeats 4000000
set_option linter.unusedSimpArgs false
set_option linter.unusedVariables false
open Go.RowKit

section
variable {P : Program} {ops : Array Oper} {md : Region.Mode} {C : World → Prop}

/-- Whatever it yields is one of K's, and the world is one of the class. -/
def dmUpon (C : World → Prop) (K : Value → Prop) : Result Next → Prop
  | .ok (.value u) w' => C w' ∧ K u
  | .ok .skip w' => C w' ∧ K undef
  | _ => False
def dm (P : Program) (o : Oper) (a : Act) (C : World → Prop) (K : Value → Prop) : Prop := ∀ w, C w → dmUpon C K ((execOp a.eval o).run P w)
theorem dmUpon_mono {K K' : Value → Prop} (h : ∀ u, K u → K' u) {r : Result Next} (hr : dmUpon C K r) : dmUpon C K' r := by
  cases r with
  | ok n w' =>
    cases n <;> simp only [dmUpon] at hr ⊢
    · exact ⟨hr.1, h _ hr.2⟩
    · exact ⟨hr.1, h _ hr.2⟩
  | halt x w' => exact hr
theorem dm_mono {o : Oper} {a : Act} {K K' : Value → Prop} (h : ∀ u, K u → K' u) (hh : dm P o a C K) : dm P o a C K' := fun w hw => dmUpon_mono h (hh w hw)

def wpD (P : Program) (ops : Array Oper) (C : World → Prop) (Q : Act → Prop) : List Oper → Act → Prop
  | [], a => Q a
  | o :: rest, a => if Region.wanted o (yielded ops a.tmps) then dm P o a C (fun u => wpD P ops C Q rest (a.put o.dst u)) else wpD P ops C Q rest (a.put o.dst undef)
def dOp (P : Program) (ops : Array Oper) (C : World → Prop) (i : Nat) (K : Act → Prop) (a : Act) : Prop :=
  match ops[i]? with
  | none => K a
  | some o => if Region.wanted o (yielded ops a.tmps) then dm P o a C (fun u => K (a.put o.dst u)) else K (a.put o.dst undef)
theorem dOp_mono {i : Nat} {a : Act} {K K' : Act → Prop} (h : ∀ a, K a → K' a) (hh : dOp P ops C i K a) : dOp P ops C i K' a := by
  unfold dOp at *
  split
  · exact h _ (by simpa [*] using hh)
  · rename_i o ho
    simp only [ho] at hh
    split
    · rename_i hw; simp only [hw, if_true] at hh; exact dm_mono (fun u hu => h _ hu) hh
    · rename_i hw; simp only [hw] at hh; exact h _ hh
def wpAnyD (P : Program) (md : Region.Mode) (ops : Array Oper) (C : World → Prop) (Q : Act → Prop) : Nat → Array Bool → Act → Prop
  | 0, listed, a => Region.ready md ops listed = [] ∧ Q a
  | fuel + 1, listed, a =>
    (Region.ready md ops listed = [] → Q a) ∧
    ∀ i ∈ Region.ready md ops listed, dOp P ops C i (wpAnyD P md ops C Q fuel (listed.setIfInBounds i true)) a

theorem wp_of_dm {o : Oper} {a : Act} {K : Act → Prop} {K' : Act → World → Prop} {Q' : Exit → Act → World → Prop} {w : World} (hw : C w) (h : ∀ a w', C w' → K a → K' a w') (hh : dm P o a C (fun u => K (a.put o.dst u))) : o.wp P a w K' Q' := by
  have h3 := hh w hw
  unfold Oper.wp
  generalize (execOp a.eval o).run P w = r at *
  cases r with
  | ok n w' =>
    cases n <;> simp only [dmUpon] at h3 <;> simp only [Oper.upon]
    case value u => exact h _ _ h3.1 h3.2
    case skip => exact h _ _ h3.1 h3.2
  | halt x w' => simp only [dmUpon] at h3
theorem wpOp_of_dOp {i : Nat} {a : Act} {K : Act → Prop} {K' : Act → World → Prop} {Q' : Exit → Act → World → Prop} {w : World} (hC : C w) (h : ∀ a w', C w' → K a → K' a w') (hh : dOp P ops C i K a) : wpOp P ops Q' i K' a w := by
  unfold dOp at hh
  unfold wpOp
  split
  · rename_i ho; simp only [ho] at hh; exact h _ _ hC hh
  · rename_i o ho
    simp only [ho] at hh
    split
    · rename_i hw; simp only [hw, if_true] at hh; exact .inl (wp_of_dm hC h hh)
    · rename_i hw; simp only [hw] at hh; exact h _ _ hC hh
theorem wpAny_of_dm {Q : Act → Prop} {Q' : Exit → Act → World → Prop} (hQ : ∀ a w, C w → Q a → Q' .normal a w) : ∀ (fuel : Nat) (listed : Array Bool) (a : Act) (w : World), C w →
    wpAnyD P md ops C Q fuel listed a → wpAny P md ops Q' fuel listed a w
  | 0, _, _, _, hw, h => ⟨h.1, hQ _ _ hw h.2⟩
  | fuel + 1, _, _, _, hw, h => ⟨fun h0 => hQ _ _ hw (h.1 h0), fun i hi => wpOp_of_dOp hw (fun a' w' hw' => wpAny_of_dm hQ fuel _ a' w' hw') (h.2 i hi)⟩

/-- In state a operation o yields one of S. -/
def YieldsD (P : Program) (ops : Array Oper) (C : World → Prop) (o : Oper) (S : Value → Prop) (a : Act) : Prop :=
  (Region.wanted o (yielded ops a.tmps) = true ∧ dm P o a C S) ∨ (Region.wanted o (yielded ops a.tmps) = false ∧ S undef)
theorem yieldsD_some {o : Oper} {S : Value → Prop} {a : Act} (h : YieldsD P ops C o S a) (hC : ∃ w, C w) : ∃ v, S v := by
  rcases h with ⟨_, h⟩ | ⟨_, h⟩
  · obtain ⟨w, hw⟩ := hC
    have h3 := h w hw
    generalize (execOp a.eval o).run P w = r at h3
    cases r with
    | ok n w' =>
      cases n <;> simp only [dmUpon] at h3
      · exact ⟨_, h3.2⟩
      · exact ⟨_, h3.2⟩
    | halt x w' => simp only [dmUpon] at h3
  · exact ⟨_, h⟩
theorem yieldsD_dOp {i : Nat} {o : Oper} {S : Value → Prop} {a : Act} (hi : ops[i]? = some o) (hy : YieldsD P ops C o S a) {K : Act → Prop} (h : ∀ v, S v → K (a.put o.dst v)) : dOp P ops C i K a := by
  unfold dOp
  simp only [hi]
  rcases hy with ⟨hw, hv⟩ | ⟨hw, hu⟩
  · simp only [hw, if_true]; exact dm_mono h hv
  · simp only [hw, Bool.false_eq_true, if_false]; exact h _ hu
theorem YieldsD.of_same {o : Oper} {S : Value → Prop} {a a' : Act} (hy : YieldsD P ops C o S a) (he : execOp a'.eval o = execOp a.eval o)
    (hw : Region.wanted o (yielded ops a'.tmps) = Region.wanted o (yielded ops a.tmps)) : YieldsD P ops C o S a' := by
  unfold YieldsD dm at *
  rw [he, hw]
  exact hy
theorem dOp_put {j : Nat} {oi oj : Oper} {S : Value → Prop} (hj : ops[j]? = some oj) (hap : oi.apart ops oj = true)
    (hsi : ∀ cs b, oi.op ≠ .select cs b) (hsj : ∀ cs b, oj.op ≠ .select cs b) {K : Act → Prop} {a : Act} (hne : ∃ v, S v)
    (hy : YieldsD P ops C oi S a) (h : ∀ v, S v → dOp P ops C j K (a.put oi.dst v)) :
    dOp P ops C j (fun a' => YieldsD P ops C oi S a' ∧ ∀ v, S v → K (a'.put oi.dst v)) a := by
  obtain ⟨h1, h2, h3⟩ := Oper.apart_spec hap
  have keep : ∀ (a : Act), YieldsD P ops C oi S a → ∀ u, YieldsD P ops C oi S (a.put oj.dst u) := fun a hy u =>
    hy.of_same (execOp_put oi hsi a oj.dst u h3) (wanted_put oi a oj.dst u h3)
  obtain ⟨v0, hv0⟩ := hne
  unfold dOp at *
  simp only [hj] at *
  have hw : ∀ v, Region.wanted oj (yielded ops (a.put oi.dst v).tmps) = Region.wanted oj (yielded ops a.tmps) := fun v => wanted_put oj a oi.dst v h1
  split
  · rename_i hwj
    have h4 : ∀ v, S v → dm P oj (a.put oi.dst v) C (fun u => K ((a.put oi.dst v).put oj.dst u)) := fun v hv => by
      have := h v hv
      rwa [hw v, if_pos hwj] at this
    intro w hC
    have h5 : ∀ v, S v → dmUpon C (fun u => K ((a.put oi.dst v).put oj.dst u)) ((execOp a.eval oj).run P w) := fun v hv => by
      have := h4 v hv w hC
      rwa [execOp_put oj hsj a oi.dst v h1] at this
    generalize (execOp a.eval oj).run P w = r at h5
    have h6 := h5 v0 hv0
    cases r with
    | ok n w' =>
      cases n <;> simp only [dmUpon] at h5 h6 ⊢
      case value u => exact ⟨h6.1, keep a hy u, fun v hv => by rw [← Act.put_comm a v u h2]; exact (h5 v hv).2⟩
      case skip => exact ⟨h6.1, keep a hy undef, fun v hv => by rw [← Act.put_comm a v undef h2]; exact (h5 v hv).2⟩
    | halt x w' => exact h6
  · rename_i hwj
    exact ⟨keep a hy _, fun v hv => by
      have := h v hv
      rw [hw v, if_neg hwj] at this
      rw [← Act.put_comm a v undef h2]; exact this⟩

theorem wpAnyD_first {Q : Act → Prop} {i : Nat} {oi : Oper} {S : Value → Prop} (hi : ops[i]? = some oi) (hsel : ∀ (j : Nat) (o : Oper) cs b, ops[j]? = some o → o.op ≠ .select cs b) (hCC : ∃ w, C w) :
    ∀ (fuel : Nat) (listed : Array Bool) (a : Act),
      (∀ j oj, ops[j]? = some oj → j ≠ i → listed.getD j true = false → (∀ e ∈ oj.after, Region.binds md e = true → e.on ≠ i) → oi.apart ops oj = true) →
      i ∈ Region.ready md ops listed → YieldsD P ops C oi S a →
      (∀ v, S v → wpAnyD P md ops C Q fuel (listed.setIfInBounds i true) (a.put oi.dst v)) → wpAnyD P md ops C Q (fuel + 1) listed a := by
  intro fuel
  induction fuel with
  | zero =>
    intro listed a _ hr hy H
    obtain ⟨v0, hv0⟩ := yieldsD_some hy hCC
    refine ⟨fun h => (by rw [h] at hr; cases hr), fun j hj => ?_⟩
    by_cases hji : j = i
    · subst hji; exact yieldsD_dOp hi hy H
    · have := ready_mono hj hji
      rw [(H v0 hv0).1] at this
      cases this
  | succ fuel ih =>
    intro listed a hfree hr hy H
    refine ⟨fun h => (by rw [h] at hr; cases hr), fun j hj => ?_⟩
    by_cases hji : j = i
    · subst hji; exact yieldsD_dOp hi hy H
    · have h1 := fun v hv => (H v hv).2 j (ready_mono hj hji)
      obtain ⟨hjun, oj, hoj, hall⟩ := mem_ready.1 hj
      have hnot : ∀ e ∈ oj.after, Region.binds md e = true → e.on ≠ i := fun e he hb heq => by
        have h1 := hall e he hb
        have h0 := (mem_ready.1 hr).1
        rw [heq] at h1
        rcases Nat.lt_or_ge i listed.size with h' | h'
        · simp [h'] at h0 h1; rw [h0] at h1; cases h1
        · simp [Array.getElem?_eq_none h'] at h1
      have h2 := dOp_put hoj (hfree j oj hoj hji hjun hnot) (fun cs b => hsel i oi cs b hi) (fun cs b => hsel j oj cs b hoj) (yieldsD_some hy hCC) hy h1
      have hfree' : ∀ k ok, ops[k]? = some ok → k ≠ i → (listed.setIfInBounds j true).getD k true = false →
          (∀ e ∈ ok.after, Region.binds md e = true → e.on ≠ i) → oi.apart ops ok = true := fun k ok hk hki hun hno => by
        refine hfree k ok hk hki ?_ hno
        by_cases hjk : j = k
        · subst hjk; exact hjun
        · rw [getD_set_ne true hjk] at hun; exact hun
      refine dOp_mono (fun a' h3 => ih (listed.setIfInBounds j true) a' hfree' (ready_mono hr (Ne.symm hji)) h3.1 fun v hv => ?_) h2
      rw [Array.setIfInBounds_comm _ _ hji]
      exact h3.2 v hv
theorem wpAnyD_lex {Q : Act → Prop} (hs : Region.noSelect ops = true) (hCC : ∃ w, C w) : ∀ (l : List Oper) (k : Nat) (listed : Array Bool) (a : Act), (∀ j, l[j]? = ops[k + j]?) →
    Region.lexFrom md ops l.length k listed = true → wpD P ops C Q l a → wpAnyD P md ops C Q l.length listed a
  | [], _, _, _, _, hB, h => ⟨by simpa [Region.lexFrom] using hB, h⟩
  | o :: l, k, listed, a, hl, hB, h => by
    have h0 : ops[k]? = some o := by simpa using (hl 0).symm
    simp only [List.length_cons, Region.lexFrom, Bool.and_eq_true] at hB
    obtain ⟨⟨hr, hf⟩, hB'⟩ := hB
    have hy : YieldsD P ops C o (fun u => wpD P ops C Q l (a.put o.dst u)) a := by
      unfold wpD at h
      by_cases hw : Region.wanted o (yielded ops a.tmps) = true
      · rw [if_pos hw] at h; exact .inl ⟨hw, h⟩
      · rw [if_neg hw] at h; exact .inr ⟨by simpa using hw, h⟩
    exact wpAnyD_first h0 (Region.noSelect_spec hs) hCC l.length listed a (Region.free_spec h0 hf) (by simpa using hr) hy
      fun v hv => wpAnyD_lex hs hCC l (k + 1) _ _ (fun j => by have := hl (j + 1); simpa [Nat.add_assoc, Nat.add_comm 1 j] using this) hB' hv
/-- ONE WALK OF THE LEXICAL ORDER SERVES EVERY ORDER. -/
theorem wp_region_dm {id : Nat} {Q : Exit → Act → World → Prop} {a : Act} {w : World} (hm : P.follows .mixedOrders = true) (hB : Region.lexB .any ops = true) (hC : C { w with drawn := w.drawn + 1 })
    (h : wpD P ops C (fun a' => ∀ w', C w' → Q .normal a' w') ops.toList a) : (Code.region id ops true).wp P Q a w := by
  simp only [Region.lexB, Bool.and_eq_true] at hB
  refine wp_region_any hm (wpAny_of_dm (Q := fun a' => ∀ w', C w' → Q .normal a' w') (fun _ w' hw' h => h w' hw') _ _ _ _ hC ?_)
  have := wpAnyD_lex (C := C) (md := .any) hB.1 ⟨_, hC⟩ ops.toList 0 (Array.replicate ops.size false) a (by simp) (by simpa using hB.2) h
  simpa using this

/-- The walk's steps. -/
theorem wpD_nil {Q : Act → Prop} {a : Act} (h : Q a) : wpD P ops C Q [] a := h
theorem wpD_run {Q : Act → Prop} {a : Act} {o : Oper} {rest : List Oper} (hw : Region.wanted o (yielded ops a.tmps) = true)
    (h : ∀ w, C w → dmUpon C (fun u => wpD P ops C Q rest (a.put o.dst u)) ((execOp a.eval o).run P w)) : wpD P ops C Q (o :: rest) a := by
  unfold wpD; rw [if_pos hw]; exact h
end

/-- The worlds after some draws. -/
def Cdr (W : World) : World → Prop := fun w' => ∃ n, w' = W.drewN n
theorem wpD_ar {P : Program} {ops : Array Oper} {W : World} {Q : Act → Prop} {a : Act} {rest : List Oper} {dst : Option Tmp} {op : BinOp} {t ty type : TypeId} {x y : Operand} {pos : String} {after : Array Edge}
    (k : FloatKind) (bx bY : Nat) (hop : isAr op = true) (hx : a.eval x = .float k bx) (hy : a.eval y = .float k bY)
    (h : ∀ r, cn k r = ar op k (cn k bx) (cn k bY) → r < 2 ^ k.format.width → wpD P ops (Cdr W) Q rest (a.put dst (.float k r))) :
    wpD P ops (Cdr W) Q ({ dst := dst, op := .binOp op t x y ty, type := type, pos := pos, after := after, guard := none } :: rest) a := by
  refine wpD_run (by simp [Region.wanted]) ?_
  rintro w' ⟨n, rfl⟩
  obtain ⟨r, m, hrun, hr, hlt⟩ := run_ar (P := P) (W.drewN n) op t k bx bY hop
  have hg : eqGuard op t x y (.float k bx) (.float k bY) = pure () := by cases op <;> first | rfl | (cases hop; done)
  have e : (execOp a.eval { dst := dst, op := .binOp op t x y ty, type := type, pos := pos, after := after, guard := none }).run P (W.drewN n) = .ok (.value (.float k r)) ((W.drewN n).drewN m) := by
    simp only [execOp, hx, hy, hg, Sem.run_bind, Sem.run_pure, Result.andThen_ok, hrun]
  rw [e]
  exact ⟨⟨n + m, World.drewN_drewN ..⟩, h r hr hlt⟩
theorem wpD_step {P : Program} {ops : Array Oper} {W : World} {Q : Act → Prop} {a : Act} {o : Oper} {rest : List Oper} (hg : o.guard = none)
    (h : ∀ (K : Value → Prop), (∀ u, wpD P ops (Cdr W) Q rest (a.put o.dst u) → K u) → ∀ n, dmUpon (Cdr W) K ((execOp a.eval o).run P (W.drewN n))) : wpD P ops (Cdr W) Q (o :: rest) a := by
  refine wpD_run (by simp [Region.wanted, hg]) ?_
  rintro w' ⟨n, rfl⟩
  exact h _ (fun _ h => h) n
theorem wp_region_dr {P : Program} {ops : Array Oper} {id : Nat} {Q : Exit → Act → World → Prop} {a : Act} {w : World} (hm : P.follows .mixedOrders = true) (hB : Region.lexB .any ops = true)
    (h : wpD P ops (Cdr w) (fun a' => ∀ n, Q .normal a' (w.drewN n)) ops.toList a) : (Code.region id ops true).wp P Q a w := by
  refine wp_region_dm hm hB (C := Cdr w) ⟨1, rfl⟩ ?_
  have mono : ∀ (l : List Oper) (a : Act), wpD P ops (Cdr w) (fun a' => ∀ n, Q .normal a' (w.drewN n)) l a → wpD P ops (Cdr w) (fun a' => ∀ w', Cdr w w' → Q .normal a' w') l a := by
    intro l
    induction l with
    | nil => rintro a h w' ⟨n, rfl⟩; exact h n
    | cons o l ih =>
      intro a h
      unfold wpD at h ⊢
      split
      · rename_i hw; rw [if_pos hw] at h; exact dm_mono (fun u hu => ih _ hu) h
      · rename_i hw; rw [if_neg hw] at h; exact ih _ h
  exact mono _ _ h
/-- The same, what follows behind a variable. -/
theorem wpD_stepK {P : Program} {ops : Array Oper} {W : World} {Q : Act → Prop} {a : Act} {o : Oper} {rest : List Oper} (hg : o.guard = none)
    (h : ∀ (K : Act → Prop), (∀ a, wpD P ops (Cdr W) Q rest a → K a) → ∀ n, dmUpon (Cdr W) (fun u => K (a.put o.dst u)) ((execOp a.eval o).run P (W.drewN n))) : wpD P ops (Cdr W) Q (o :: rest) a :=
  wpD_step hg fun K hK n => dmUpon_mono (fun u hu => hK u hu) (h _ (fun _ h => h) n)
theorem wpD_arK {P : Program} {ops : Array Oper} {W : World} {Q : Act → Prop} {a : Act} {rest : List Oper} {dst : Option Tmp} {op : BinOp} {t ty type : TypeId} {x y : Operand} {pos : String} {after : Array Edge}
    (k : FloatKind) (bx bY : Nat) (hop : isAr op = true) (hx : a.eval x = .float k bx) (hy : a.eval y = .float k bY)
    (h : ∀ (K : Act → Prop), (∀ a, wpD P ops (Cdr W) Q rest a → K a) → ∀ r, cn k r = ar op k (cn k bx) (cn k bY) → r < 2 ^ k.format.width → K (a.put dst (.float k r))) :
    wpD P ops (Cdr W) Q ({ dst := dst, op := .binOp op t x y ty, type := type, pos := pos, after := after, guard := none } :: rest) a :=
  wpD_ar k bx bY hop hx hy fun r h1 h2 => h _ (fun _ h => h) r h1 h2
theorem wp_region_lit {P : Program} {l : List Oper} {id : Nat} {Q : Exit → Act → World → Prop} {a : Act} {w : World} (hm : P.follows .mixedOrders = true) (hB : Region.lexB .any l.toArray = true)
    (h : wpD P l.toArray (Cdr w) (fun a' => ∀ n, Q .normal a' (w.drewN n)) l a) : (Code.region id l.toArray true).wp P Q a w := wp_region_dr hm hB h

end Go.Proofs.Ytkkomajokdlkeaa
