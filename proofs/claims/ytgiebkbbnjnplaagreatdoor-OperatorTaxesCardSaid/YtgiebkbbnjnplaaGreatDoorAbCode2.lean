/- Regions in the order of the text, and the constructs. -/
import Derived.Test.YtgiebkbbnjnplaaGreatDoorAbCode
import Derived.LoopN
import Derived.Scope
namespace Go.Ab
section
variable {P : Program} {μ : Mu} {σ : Heap} {w : World} {n : Nat} {aa : AAct} {a : Act}

theorem stepOf_eq (i : Item) (call : CallFn) (k : RunF) (aa : AAct) (σ : Heap) : evStep (stepOf i) call k aa σ = execItem call i k aa σ := by
  obtain ⟨dst, op, guard⟩ := i
  cases dst with
  | none => cases op <;> rfl
  | some d =>
    cases guard with
    | some g => cases op <;> rfl
    | none => cases op <;> rfl

theorem evSteps_cons (call : CallFn) (s : Step) (l : List Step) : evSteps call (s :: l) = evStep s call (evSteps call l) := rfl

/-- Indices and their items. -/
def Listed (P : Program) (n : Nat) (ops : Array Oper) : List Nat → List Item → Prop
  | [], its => its = []
  | i :: is, its => ∃ o it rest, its = it :: rest ∧ ops[i]? = some o ∧ compItem P n ops o = some it ∧ Listed P n ops is rest

theorem listSound {call : CallFn} (hcall : CallOk P call) {ops : Array Oper} {Q : Exit → Act → World → Prop} : ∀ (is : List Nat) (its : List Item), Listed P n ops is its →
    RunOk P n (evSteps call (its.map stepOf)) (wpOps P ops Q is) Q
  | [], its, h => by
    have h' : its = [] := h
    subst h'
    intro μ σ w aa a r hg f hs
    exact hs μ a w r (.refl _ _ _) f
  | i :: is, its, h => by
    obtain ⟨o, it, rest, rfl, ho, hi, hr⟩ := h
    intro μ σ w aa a r hg f hs
    have ih := listSound hcall (Q := Q) is rest hr
    rw [List.map_cons, evSteps_cons, stepOf_eq] at hs
    have := itemSound hcall hg r f hi ih hs
    simp only [wpOps, ho]
    exact this

theorem listed_range {ops : Array Oper} {its : List Item} (h : mapO (compItem P n ops) ops.toList = some its) : Listed P n ops (List.range ops.size) its := by
  obtain ⟨hl, hi⟩ := mapO_some _ _ _ h
  have key : ∀ (m k : Nat), k + m = ops.size → Listed P n ops (List.range' k m) (its.drop k) := by
    intro m
    induction m with
    | zero =>
      intro k hk
      show its.drop k = []
      exact List.drop_of_length_le (by simp at hl; omega)
    | succ m ih =>
      intro k hk
      have hlt : k < ops.size := by omega
      have ho : ops.toList[k]? = some ops[k] := by simp [hlt]
      obtain ⟨it, h1, h2⟩ := hi k _ ho
      have hlt' : k < its.length := (List.getElem?_eq_some_iff.1 h2).1
      refine ⟨ops[k], it, its.drop (k + 1), ?_, by simp [hlt], h1, ih (k + 1) (by omega)⟩
      rw [List.drop_eq_getElem_cons hlt']
      congr 1
      exact (List.getElem?_eq_some_iff.1 h2).2
  have := key ops.size 0 (by omega)
  rw [List.range_eq_range']
  simpa using this

/-- A region in the order of the text. -/
theorem straightSound {call : CallFn} (hcall : CallOk P call) {ops : Array Oper} {l : List Step} (hl : compStraight P n ops = some l) (Q : Exit → Act → World → Prop) :
    RunOk P n (evSteps call l) (wpOps P ops Q (List.range ops.size)) Q := by
  unfold compStraight at hl
  obtain ⟨its, hits, rfl⟩ := omap hl
  exact listSound hcall _ _ (listed_range hits)

/-- Regions that draw their order do, in each order, what their steps say. -/
def DrawnOk (P : Program) (n : Nat) (call : CallFn) : Prop :=
  ∀ (ops : Array Oper) (l : List Step), compDrawn P n ops = some l → ∀ (Q : Exit → Act → World → Prop) (t : Nat),
    RunOk P n (evSteps call l) (fun a w => wpOps P ops Q (Region.schedule (P.follows .mixedOrders) ops t) a { w with drawn := w.drawn + 1 }) Q

theorem Sat.norm {res : Res} {Q : Exit → Act → World → Prop} {aa' : AAct} {σ' : Heap} (h : Sat n μ σ w res Q) (e : res = .done .normal aa' σ') : ∀ μ' a w', Rel μ' σ' w' → Ext μ σ w μ' σ' w' → FRel μ' n aa' a → Q .normal a w' := by
  subst e
  exact h

theorem codeSound {call : CallFn} (hcall : CallOk P call) (hd : DrawnOk P n call) (rounds : Nat) : ∀ (c : Code) (Q : Exit → Act → World → Prop), RunOk P n (evCode call rounds (compCode P n c)) (c.wp P Q) Q := by
  intro c
  induction c with
  | skip =>
    intro Q μ σ w aa a r hg f hs
    exact wp_skip (hs μ a w r (.refl _ _ _) f)
  | label l =>
    intro Q μ σ w aa a r hg f hs
    exact wp_label (hs μ a w r (.refl _ _ _) f)
  | region id ops draw =>
    intro Q μ σ w aa a r hg f hs
    cases draw with
    | false =>
      simp only [compCode] at hs
      cases hl : compStraight P n ops with
      | none => rw [hl] at hs; exact hs.elim
      | some l =>
        rw [hl] at hs
        exact wp_region (straightSound hcall hl Q μ σ w aa a r hg f hs)
    | true =>
      simp only [compCode] at hs
      cases hl : compDrawn P n ops with
      | none => rw [hl] at hs; exact hs.elim
      | some l =>
        rw [hl] at hs
        exact wp_region_draw (fun t => hd ops l hl Q t μ σ w aa a r hg f hs)
  | seq x y ihx ihy =>
    intro Q μ σ w aa a r hg f hs
    simp only [compCode] at hs
    refine wp_seq (ihx _ μ σ w aa a r hg f ?_)
    have hs' : Sat n μ σ w (evSeq (evCode call rounds (compCode P n x)) (evCode call rounds (compCode P n y)) aa σ) Q := hs
    unfold evSeq at hs'
    generalize evCode call rounds (compCode P n x) aa σ = res at hs'
    cases res with
    | fail => exact hs'.elim
    | done e aa' σ' =>
      cases e with
      | normal =>
        intro μ' a' w' r' e' f'
        exact ihy Q μ' σ' w' aa' a' r' (hg.mono e'.mono) f' (hs'.trans e')
      | exit id => exact hs'
      | ret => exact hs'
      | panic v => exact hs'.elim
  | cond c x y ihx ihy =>
    intro Q μ σ w aa a r hg f hs
    simp only [compCode] at hs
    cases hc : compOpd P c with
    | none => rw [hc] at hs; exact hs.elim
    | some c' =>
      rw [hc] at hs
      have hs' : Sat n μ σ w (evCond c' (evCode call rounds (compCode P n x)) (evCode call rounds (compCode P n y)) aa σ) Q := hs
      unfold evCond at hs'
      have hr := f.hopd hg _ _ hc
      split at hs'
      · rename_i e1
        rw [e1] at hr
        exact wp_cond_true hr.bool (ihx Q μ σ w aa a r hg f hs')
      · rename_i e1
        rw [e1] at hr
        exact wp_cond_false hr.bool (ihy Q μ σ w aa a r hg f hs')
      · exact hs'.elim
  | block id x ih =>
    intro Q μ σ w aa a r hg f hs
    simp only [compCode] at hs
    refine wp_block (ih _ μ σ w aa a r hg f ?_)
    have hs' : Sat n μ σ w (evBlock id (evCode call rounds (compCode P n x)) aa σ) Q := hs
    unfold evBlock at hs'
    generalize evCode call rounds (compCode P n x) aa σ = res at hs'
    cases res with
    | fail => exact hs'.elim
    | done e aa' σ' =>
      cases e with
      | normal => exact hs'
      | exit id' =>
        dsimp only at hs'
        cases hb : Nat.beq id' id with
        | true =>
          rw [hb] at hs'
          have he := Nat.eq_of_beq_eq_true hb
          intro μ' a' w' r' e' f'
          simp only [Exit.inBlock, he, if_true]
          exact hs' μ' a' w' r' e' f'
        | false =>
          rw [hb] at hs'
          have he := Nat.ne_of_beq_eq_false hb
          intro μ' a' w' r' e' f'
          simp only [Exit.inBlock, he, if_false]
          exact hs' μ' a' w' r' e' f'
      | ret => exact hs'
      | panic v => exact hs'.elim
  | loop x ih =>
    intro Q μ σ w aa a r hg f hs
    simp only [compCode] at hs
    have hs' : Sat n μ σ w (evLoop (evCode call rounds (compCode P n x)) rounds aa σ) Q := hs
    refine wp_loop_rounds rounds ?_
    have key : ∀ (m : Nat), RunOk P n (evLoop (evCode call rounds (compCode P n x)) m) (Code.rounds P x Q m) Q := by
      intro m
      induction m with
      | zero => intro μ σ w aa a r hg f hs; exact hs.elim
      | succ m ihm =>
        intro μ σ w aa a r hg f hs
        refine ih _ μ σ w aa a r hg f ?_
        have hs' : Sat n μ σ w (match evCode call rounds (compCode P n x) aa σ with
          | .done .normal a' σ' => evLoop (evCode call rounds (compCode P n x)) m a' σ'
          | r => r) Q := hs
        generalize evCode call rounds (compCode P n x) aa σ = res at hs'
        cases res with
        | fail => exact hs'.elim
        | done e aa' σ' =>
          cases e with
          | normal =>
            intro μ' a' w' r' e' f'
            exact ihm μ' σ' w' aa' a' r' (hg.mono e'.mono) f' (hs'.trans e')
          | exit id => exact hs'
          | ret => exact hs'
          | panic v => exact hs'.elim
    exact key rounds μ σ w aa a r hg f hs'
  | exit id =>
    intro Q μ σ w aa a r hg f hs
    exact wp_exit (hs μ a w r (.refl _ _ _) f)
  | ret =>
    intro Q μ σ w aa a r hg f hs
    exact wp_ret (hs μ a w r (.refl _ _ _) f)
  | scope x ih =>
    intro Q μ σ w aa a r hg f hs
    simp only [compCode] at hs
    refine wp_scope_straight (ih _ μ σ w aa a r hg f ?_)
    have hs' : Sat n μ σ w (evCode call rounds (compCode P n x) aa σ) Q := hs
    generalize evCode call rounds (compCode P n x) aa σ = res at hs'
    cases res with
    | fail => exact hs'.elim
    | done e aa' σ' =>
      cases e with
      | normal => exact hs'
      | exit id => exact hs'
      | ret => exact hs'
      | panic v => exact hs'.elim
  | _ =>
    intro Q μ σ w aa a r hg f hs
    exact hs.elim

end
end Go.Ab
