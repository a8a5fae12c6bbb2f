/- Calls, by their depth. -/
import Derived.Test.YtgiebkbbnjnplaaGreatDoorAbCall3
namespace Go.Ab
section
variable {P : Program}

theorem callStepSound {tbl : FuncId → Option AFunc} (htbl : TblOk P tbl) {call : CallFn} (hcall : CallOk P call) (hdraw : ∀ n, DrawnOk P n call) (rounds : Nat) : CallOk P (callStep tbl rounds call) := by
  intro f args σ
  unfold callStep
  cases hf : tbl f with
  | none => trivial
  | some afn =>
    obtain ⟨fn, hfn, hcf⟩ := htbl f afn hf
    obtain ⟨c, hb, hrs, hn, hbody⟩ := compFunc_some hcf
    dsimp only
    cases hl : Nat.ble (len args) 256 with
    | false => trivial
    | true =>
      have hle : args.length ≤ 256 := by rw [← len_eq]; exact Nat.le_of_ble_eq_true hl
      dsimp only
      have ret : ∀ (aa' : AAct) (σ1 : Heap), (∀ (μ : Mu) (w : World) (as : Array Value) (R : Ending → World → Prop), Rel μ σ w → GRel P μ → VRels μ args as.toList →
          (∀ μ' a w', Rel μ' σ1 w' → Ext μ σ w μ' σ1 w' → FRel μ' fn.ntmps aa' a → Leaves P fn a.tmps R a.defers .returning w') → Calls P f as w R) →
          (match returnA tbl call afn aa' σ1 with
          | .val r σ' =>
            (∃ fn, P.funcs[f]? = some fn ∧ fn.body.isSome = true ∧ (fn.name == "runtime.NumGoroutine") = false) ∧
            ∀ (μ : Mu) (w : World) (as : Array Value), Rel μ σ w → GRel P μ → VRels μ args as.toList →
              Calls P f as w fun e w' => ∃ v μ', e = .returned v ∧ Rel μ' σ' w' ∧ Ext μ σ w μ' σ' w' ∧ VRel μ' r v
          | .defr _ _ _ => False
          | _ => True) := by
        intro aa' σ1 hgo
        unfold returnA
        cases hd : evDefers tbl call aa'.defers σ1 with
        | none => trivial
        | some σ2 =>
          dsimp only
          cases hr : resultsA afn.results aa'.tmps σ2 with
          | none => trivial
          | some v =>
            refine ⟨⟨fn, hfn, by rw [hb]; rfl, hn⟩, ?_⟩
            intro μ w as r hg hv
            refine hgo μ w as _ r hg hv ?_
            intro μ' a w' r' e' f'
            refine defersSound htbl hcall aa'.defers a.defers μ' σ1 w' σ2 r' (hg.mono e'.mono) f'.defers hd ?_
            intro μ2 w2 r2 e2
            obtain ⟨u, hu, hur⟩ := results_rel r2 (f'.mono e2.mono) hrs hr
            exact ⟨u, hu, u, μ2, rfl, r2, e'.trans e2, hur⟩
      cases hres : evCode call rounds afn.body (frameOf afn args) σ with
      | fail => trivial
      | done e aa' σ1 =>
        have go : (e = .normal ∨ e = .ret) → ∀ (μ : Mu) (w : World) (as : Array Value) (R : Ending → World → Prop), Rel μ σ w → GRel P μ → VRels μ args as.toList →
            (∀ μ' a w', Rel μ' σ1 w' → Ext μ σ w μ' σ1 w' → FRel μ' fn.ntmps aa' a → Leaves P fn a.tmps R a.defers .returning w') → Calls P f as w R := by
          intro he μ w as R r hg hv hR
          refine calls_of_wp_defers hfn hb ?_
          refine codeSound hcall (hdraw fn.ntmps) rounds c _ μ σ w (frameOf afn args) _ r hg (frame_rel hv hle) ?_
          rw [← hbody, hres]
          rcases he with rfl | rfl
          · exact hR
          · exact hR
        cases e with
        | normal => exact ret aa' σ1 (go (.inl rfl))
        | ret => exact ret aa' σ1 (go (.inr rfl))
        | exit id => trivial
        | panic v => trivial

/-- Calls name no block anew that has a name. -/
def NextOk (call : CallFn) : Prop := ∀ f args σ v σ', call f args σ = .val v σ' → σ.next ≤ σ'.next

theorem guardN_val {σ : Heap} {o : Out} {v : AVal} {σ' : Heap} (h : guardN σ o = .val v σ') : o = .val v σ' ∧ σ.next ≤ σ'.next := by
  unfold guardN at h
  split at h
  · rename_i v1 σ1
    cases hb : Nat.ble σ.next σ1.next with
    | false => rw [hb] at h; cases h
    | true => rw [hb] at h; cases h; exact ⟨rfl, Nat.le_of_ble_eq_true hb⟩
  · rename_i h'
    exact absurd h (h' v σ')

theorem CallOk.guard {call : CallFn} (h : CallOk P call) : CallOk P (fun f args σ => guardN σ (call f args σ)) := by
  intro f args σ
  have h1 := h f args σ
  dsimp only
  generalize call f args σ = o at h1 ⊢
  cases o with
  | val v σ' =>
    unfold guardN
    dsimp only
    generalize Nat.ble σ.next σ'.next = t
    cases t with
    | false => trivial
    | true => exact h1
  | defr g as σ' => exact h1.elim
  | panic v σ' => trivial
  | fail => trivial

theorem nextOk (tbl : FuncId → Option AFunc) (rounds : Nat) : ∀ m, NextOk (evCall tbl rounds m)
  | 0 => fun f args σ v σ' h => by cases h
  | m + 1 => fun f args σ v σ' h => (guardN_val h).2

theorem callSound {tbl : FuncId → Option AFunc} (htbl : TblOk P tbl) (hdraw : ∀ call, CallOk P call → NextOk call → ∀ n, DrawnOk P n call) (rounds : Nat) : ∀ m, CallOk P (evCall tbl rounds m)
  | 0 => fun _ _ _ => trivial
  | m + 1 => (callStepSound htbl (callSound htbl hdraw rounds m) (hdraw _ (callSound htbl hdraw rounds m) (nextOk tbl rounds m)) rounds).guard

end
end Go.Ab
