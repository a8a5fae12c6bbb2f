/- Deferred functions. -/
import Derived.Test.YtgiebkbbnjnplaaGreatDoorAbCall
namespace Go.Ab
section
variable {P : Program} {μ : Mu} {σ : Heap} {w : World} {n : Nat} {aa : AAct} {a : Act}

/-- What follows of a deferred function whose caller returns. -/
def RunOkD (P : Program) (n : Nat) (cs : List Frame) (k : RunF) (K : Act → List Frame → World → Prop) (Q : Exit → Act → World → Prop) : Prop :=
  ∀ (μ : Mu) (σ : Heap) (w : World) (aa : AAct) (a : Act), Rel μ σ w → GRel P μ → FRel μ n aa a → Sat n μ σ w (k aa σ) Q → K a cs w

def qD (cs : List Frame) (Q : Exit → Act → World → Prop) : Exit → Act → List Frame → World → Prop := fun e a cs' w => cs' = cs ∧ Q e a w

/-- One operation of a deferred function. -/
theorem itemSoundD {call : CallFn} (hcall : CallOk P call) (hg : GRel P μ) (r : Rel μ σ w) (f : FRel μ n aa a) {ops : Array Oper} {o : Oper} {i : Item} (hi : compItem P n ops o = some i) {k : RunF} {cs : List Frame} (hcs : recoverD cs = none)
    {K : Act → List Frame → World → Prop} {Q : Exit → Act → World → Prop} (hk : RunOkD P n cs k K Q) (hs : Sat n μ σ w (execItemD call i k aa σ) Q) :
    (if Region.wanted o (yielded ops a.tmps) then
        match (execOp a.eval o).run P w with
        | .ok .recover w' =>
          match recoverD cs with
          | some (v, cs') => K (a.put o.dst v) cs' w'
          | none => K (a.put o.dst .nilIface) cs w'
        | r => o.upon P a (fun a' w' => K a' cs w') (fun e a' w' => qD cs Q e a' cs w') r
      else K (a.put o.dst undef) cs w) := by
  obtain ⟨h1, h2, h3, h4⟩ := compItem_some hi
  rw [wanted_eq f h1]
  unfold execItemD at hs
  cases hw : wantedA i.guard aa.tmps with
  | false =>
    rw [hw] at hs
    rw [if_neg (by simp)]
    exact hk μ σ w _ _ r hg (f.put h4 (VRel.undef μ)) (by rw [h2] at hs; exact hs)
  | true =>
    rw [hw] at hs
    rw [if_pos rfl]
    dsimp only at hs
    have hopd := f.hopd hg
    cases hc : compOp P o with
    | none =>
      rw [h3, hc] at hs
      exact hs.elim
    | some aop =>
      rw [h3, hc, Option.getD_some, h2] at hs
      have next : ∀ {μ' : Mu} {σ' : Heap} {w' : World} {v : AVal} {x : Value}, Sat n μ σ w (k (aa.put o.dst v) σ') Q → Rel μ' σ' w' → Ext μ σ w μ' σ' w' → VRel μ' v x → K (a.put o.dst x) cs w' := by
        intro μ' σ' w' v x hsat hr' he' hv'
        exact hk μ' σ' w' _ _ hr' (hg.mono he'.mono) ((f.mono he'.mono).put h4 hv') (hsat.trans he')
      cases hcl : aop.isCall with
      | false =>
        have hs' : Sat n μ σ w (match evOp aop call aa.tmps σ with | .val v σ' => k (aa.put o.dst v) σ' | _ => .fail) Q := by
          cases aop <;> first | exact hs | cases hcl
        rw [evOp_pure hcl] at hs'
        have hgood := opSound r hopd hc
        cases hev : evOp aop noCall aa.tmps σ with
        | val v σ' =>
          rw [hev] at hs' hgood
          obtain ⟨μ', w', x, hx, hr', he', hv'⟩ := hgood
          rcases hx with hx | ⟨hx, rfl⟩
          · rw [hx]; exact next hs' hr' he' hv'
          · rw [hx]; exact next hs' hr' he' hv'
        | defr g args σ' => rw [hev] at hs'; exact hs'.elim
        | panic v σ' => rw [hev] at hs'; exact hs'.elim
        | fail => rw [hev] at hs'; exact hs'.elim
      | true =>
        have docall : ∀ (g : FuncId) (args : List AVal) (as : Array Value), VRels μ args as.toList → Sat n μ σ w (match call g args σ with | .val v σ' => k (aa.put o.dst v) σ' | _ => .fail) Q →
            ((∃ fn, P.funcs[g]? = some fn ∧ fn.body.isSome = true ∧ (fn.name == "runtime.NumGoroutine") = false) → (execOp a.eval o).run P w = .ok (.enter g as) w) →
            (match (execOp a.eval o).run P w with
              | .ok .recover w' =>
                match recoverD cs with
                | some (v, cs') => K (a.put o.dst v) cs' w'
                | none => K (a.put o.dst .nilIface) cs w'
              | r => o.upon P a (fun a' w' => K a' cs w') (fun e a' w' => qD cs Q e a' cs w') r) := by
          intro g args as hargs hsat hrun
          have hco := hcall g args σ
          cases hev : call g args σ with
          | val v σ' =>
            rw [hev] at hco hsat
            obtain ⟨hfn, hcalls⟩ := hco
            rw [hrun hfn]
            refine Calls.mono (hcalls μ w as r hg hargs) ?_
            rintro e w' ⟨x, μ', rfl, hr', he', hv'⟩
            exact next hsat hr' he' hv'
          | defr _ _ _ => rw [hev] at hco; exact hco.elim
          | panic _ _ => rw [hev] at hsat; exact hsat.elim
          | fail => rw [hev] at hsat; exact hsat.elim
        rcases compOp_isCall hc hcl with ⟨rfl, c, hop, hcal, hca⟩ | ⟨c, hop, ⟨g, xs, fn, rfl, hcal, hxs, hfn, hb⟩ | ⟨x, x', xs, rfl, hcal, hx, hxs⟩⟩
        · have hrun : (execOp a.eval o).run P w = .ok .recover w := by
            unfold execOp
            rw [hop]
            simp [resolve, hcal, hca, invoke, builtin]
          rw [hrun]
          dsimp only
          rw [hcs]
          exact next hs r (.refl _ _ _) (by simp only [VRel])
        · refine docall g (evs xs aa.tmps) (c.args.map a.eval) (hopds hopd hxs) hs ?_
          rintro ⟨fn', hf', hb', hn'⟩
          unfold execOp
          rw [hop]
          have hbn : ¬ fn'.body = none := fun e => by rw [e] at hb'; cases hb'
          have hnn : ¬ fn'.name = "runtime.NumGoroutine" := by simpa using hn'
          simp [resolve, hcal, Deferred.ofValue, func_opd hopd g, invoke, callFunc, program, Sem.run, hf', hbn, hnn]
        · have hs' : Sat n μ σ w (match oCallDyn x' xs call aa.tmps σ with | .val v σ' => k (aa.put o.dst v) σ' | _ => .fail) Q := hs
          unfold oCallDyn at hs'
          have hrx := hopd _ _ hx
          cases hxe : x'.ev aa.tmps with
          | func g caps =>
            rw [hxe] at hrx hs'
            simp only [VRel] at hrx
            obtain ⟨vs, hv, hcs'⟩ := hrx
            refine docall g (evs xs aa.tmps ++ caps) (c.args.map a.eval ++ vs) (by rw [Array.toList_append]; exact (hopds hopd hxs).append hcs') hs' ?_
            rintro ⟨fn', hf', hb', hn'⟩
            unfold execOp
            rw [hop]
            have hbn : ¬ fn'.body = none := fun e => by rw [e] at hb'; cases hb'
            have hnn : ¬ fn'.name = "runtime.NumGoroutine" := by simpa using hn'
            simp [resolve, hcal, Deferred.ofValue, hv, invoke, callFunc, program, Sem.run, hf', hbn, hnn]
          | _ => rw [hxe] at hs'; exact hs'.elim

theorem stepOfD_eq (i : Item) (call : CallFn) (k : RunF) (aa : AAct) (σ : Heap) : evStepD call (stepOf i) k aa σ = execItemD call i k aa σ := by
  obtain ⟨dst, op, guard⟩ := i
  cases dst with
  | none => cases op <;> rfl
  | some d =>
    cases guard with
    | some g => cases op <;> rfl
    | none => cases op <;> rfl

theorem listSoundD {call : CallFn} (hcall : CallOk P call) {ops : Array Oper} {cs : List Frame} (hcs : recoverD cs = none) {Q : Exit → Act → World → Prop} : ∀ (is : List Nat) (its : List Item), Listed P n ops is its →
    RunOkD P n cs (evStepsD call (its.map stepOf)) (wpOpsS P ops (qD cs Q) is) Q
  | [], its, h => by
    have h' : its = [] := h
    subst h'
    intro μ σ w aa a r hg f hs
    exact ⟨rfl, hs μ a w r (.refl _ _ _) f⟩
  | i :: is, its, h => by
    obtain ⟨o, it, rest, rfl, ho, hi, hr⟩ := h
    intro μ σ w aa a r hg f hs
    have ih := listSoundD hcall hcs (Q := Q) is rest hr
    have hs' : Sat n μ σ w (evStepD call (stepOf it) (evStepsD call (rest.map stepOf)) aa σ) Q := hs
    rw [stepOfD_eq] at hs'
    have := itemSoundD hcall hg r f hi hcs ih hs'
    simp only [wpOpsS, ho]
    exact this

theorem codeSoundD {call : CallFn} (hcall : CallOk P call) {cs : List Frame} (hcs : recoverD cs = none) : ∀ (c : Code) (Q : Exit → Act → World → Prop), RunOkD P n cs (evCodeD call (compCode P n c)) (c.wpS P (qD cs Q)) Q := by
  intro c
  induction c with
  | skip =>
    intro Q μ σ w aa a r hg f hs
    exact wpS_of_wp (wp_skip ⟨rfl, hs μ a w r (.refl _ _ _) f⟩)
  | label l =>
    intro Q μ σ w aa a r hg f hs
    exact wpS_of_wp (wp_label ⟨rfl, hs μ a w r (.refl _ _ _) f⟩)
  | region id ops draw =>
    intro Q μ σ w aa a r hg f hs
    cases draw with
    | true =>
      simp only [compCode] at hs
      cases hl : compDrawn P n ops with
      | none => rw [hl] at hs; exact hs.elim
      | some l => rw [hl] at hs; exact hs.elim
    | false =>
      simp only [compCode] at hs
      cases hl : compStraight P n ops with
      | none => rw [hl] at hs; exact hs.elim
      | some l =>
        rw [hl] at hs
        have hs' : Sat n μ σ w (evStepsD call l aa σ) Q := hs
        unfold compStraight at hl
        obtain ⟨its, hits, rfl⟩ := omap hl
        exact wpS_region (listSoundD hcall hcs _ _ (listed_range hits) μ σ w aa a r hg f hs')
  | seq x y ihx ihy =>
    intro Q μ σ w aa a r hg f hs
    simp only [compCode] at hs
    refine wpS_seq ?_
    have hs' : Sat n μ σ w (evSeq (evCodeD call (compCode P n x)) (evCodeD call (compCode P n y)) aa σ) Q := hs
    have hx := ihx (Exit.then (fun a w => y.wpS P (qD cs Q) a cs w) Q) μ σ w aa a r hg f ?_
    · intro b k hb hr
      obtain ⟨e, a', cs', w', ⟨rfl, hq⟩, harr⟩ := hx b k hb hr
      refine ⟨e, a', cs', w', ?_, harr⟩
      cases e <;> first | exact hq | exact ⟨rfl, hq⟩
    · unfold evSeq at hs'
      generalize evCodeD call (compCode P n x) aa σ = res at hs'
      cases res with
      | fail => exact hs'.elim
      | done e aa' σ' =>
        cases e with
        | normal =>
          intro μ' a' w' r' e' f'
          exact ihy Q μ' σ' w' aa' a' r' (hg.mono e'.mono) f' (hs'.trans e')
        | exit id => exact hs'
        | ret => exact hs'
        | panic v => exact hs'.elim
  | cond c x y ihx ihy =>
    intro Q μ σ w aa a r hg f hs
    simp only [compCode] at hs
    cases hc : compOpd P c with
    | none => rw [hc] at hs; exact hs.elim
    | some c' =>
      rw [hc] at hs
      have hs' : Sat n μ σ w (evCond c' (evCodeD call (compCode P n x)) (evCodeD call (compCode P n y)) aa σ) Q := hs
      unfold evCond at hs'
      have hr := f.hopd hg _ _ hc
      split at hs'
      · rename_i e1
        rw [e1] at hr
        exact wpS_cond (t := true) hr.bool (ihx Q μ σ w aa a r hg f hs')
      · rename_i e1
        rw [e1] at hr
        exact wpS_cond (t := false) hr.bool (ihy Q μ σ w aa a r hg f hs')
      · exact hs'.elim
  | ret =>
    intro Q μ σ w aa a r hg f hs
    exact wpS_of_wp (wp_ret ⟨rfl, hs μ a w r (.refl _ _ _) f⟩)
  | _ =>
    intro Q μ σ w aa a r hg f hs
    exact hs.elim

end
end Go.Ab
