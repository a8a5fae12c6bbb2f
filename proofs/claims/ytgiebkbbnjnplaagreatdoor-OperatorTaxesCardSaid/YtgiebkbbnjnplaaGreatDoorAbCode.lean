/- From operations to code: frames, regions in the order of the text, the constructs. -/
import Derived.Test.YtgiebkbbnjnplaaGreatDoorAbCallInv
namespace Go.Ab

/-- The program's variables lie where they lie. -/
def GRel (P : Program) (μ : Mu) : Prop := ∀ g, g < P.globals.size → ∃ room, μ g = some ⟨g, 0, room⟩

theorem GRel.mono {P : Program} {μ μ' : Mu} (h : GRel P μ) (hl : μ.le μ') : GRel P μ' := fun g hg => let ⟨r, e⟩ := h g hg; ⟨r, hl _ _ e⟩

def DRel (μ : Mu) : List (FuncId × List AVal) → List Deferred → Prop
  | [], ds => ds = []
  | (f, args) :: as, ds => ∃ d rest caps, ds = d :: rest ∧ d.target = .fn (.func f) caps ∧ VRels μ args (d.args.toList ++ caps.toList) ∧ DRel μ as rest

theorem DRel.mono {μ μ' : Mu} (h : μ.le μ') : ∀ {as : List (FuncId × List AVal)} {ds : List Deferred}, DRel μ as ds → DRel μ' as ds
  | [], _, r => r
  | (f, args) :: as, ds, r => by
    obtain ⟨d, rest, caps, e, ht, hv, hr⟩ := r
    exact ⟨d, rest, caps, e, ht, hv.mono h, hr.mono h⟩

/-- An abstract frame stands for a frame of n temporaries. -/
structure FRel (μ : Mu) (n : Nat) (aa : AAct) (a : Act) : Prop where
  size : n ≤ a.tmps.size
  tmps : ∀ t, t < 256 → VRel μ (tmpOf aa.tmps t) (a.tmps.getD t undef)
  full : aa.tmps.full 4
  defers : DRel μ aa.defers a.defers

theorem FRel.mono {μ μ' : Mu} (h : μ.le μ') {n : Nat} {aa : AAct} {a : Act} (r : FRel μ n aa a) : FRel μ' n aa a :=
  ⟨r.size, fun t ht => (r.tmps t ht).mono h, r.full, r.defers.mono h⟩

section
variable {P : Program} {μ : Mu} {σ : Heap} {w : World} {n : Nat} {aa : AAct} {a : Act}

theorem FRel.hopd (r : FRel μ n aa a) (hg : GRel P μ) : HOpd P μ aa.tmps a.eval := by
  intro x y hc
  cases x with
  | tmp t =>
    simp only [compOpd] at hc
    split at hc
    · rename_i ht
      cases hc
      exact r.tmps t ht
    · cases hc
  | const v =>
    simp only [compOpd] at hc
    obtain ⟨b, hb, rfl⟩ := omap hc
    exact ofValue_rel μ _ _ _ hb
  | global g =>
    simp only [compOpd] at hc
    split at hc
    · rename_i hlt
      cases hc
      obtain ⟨room, e⟩ := hg g hlt
      simp only [Opd.ev, VRel, Act.eval]
      exact ⟨_, e, rfl⟩
    · cases hc
  | func f =>
    simp only [compOpd] at hc
    cases hc
    simp only [Opd.ev, VRel, Act.eval]
    exact ⟨#[], rfl, by simp [VRels]⟩

theorem FRel.put (r : FRel μ n aa a) {dst : Option Nat} (hd : ∀ d, dst = some d → d < n ∧ d < 256) {v : AVal} {x : Value} (hv : VRel μ v x) : FRel μ n (aa.put dst v) (a.put dst x) := by
  cases dst with
  | none => exact r
  | some d =>
    obtain ⟨h1, h2⟩ := hd d rfl
    refine ⟨by show n ≤ (a.tmps.setIfInBounds d x).size; rw [Array.size_setIfInBounds]; exact r.size, ?_, setTmp_full r.full d v, r.defers⟩
    intro t ht
    show VRel μ (tmpOf (setTmp aa.tmps d v) t) ((a.tmps.setIfInBounds d x).getD t undef)
    rw [tmpOf_setTmp r.full h2 ht]
    have hs : d < a.tmps.size := Nat.lt_of_lt_of_le h1 r.size
    by_cases e : t = d
    · subst e
      rw [if_pos rfl]
      simp [Array.getD, hs]
      exact hv
    · rw [if_neg e]
      have := r.tmps t ht
      have he : (a.tmps.setIfInBounds d x).getD t undef = a.tmps.getD t undef := by
        simp only [Array.getD_eq_getD_getElem?, Array.getElem?_setIfInBounds]
        rw [if_neg (fun h => e h.symm)]
      rw [he]
      exact this

theorem VRel.of_bool {v : AVal} {b : Bool} (h : VRel μ v (.bool b)) : v = .bool b := by
  cases v with
  | bool c => simp only [VRel] at h; cases h; rfl
  | int _ _ | str _ | nilFunc | nilIface => simp only [VRel] at h; cases h
  | ptr q => cases q with
    | none => simp only [VRel] at h; cases h
    | some q => obtain ⟨x, y⟩ := q; simp only [VRel] at h; obtain ⟨_, _, h⟩ := h; cases h
  | slice q _ _ _ _ => cases q with
    | none => simp only [VRel] at h; obtain ⟨_, _, h⟩ := h; cases h
    | some q => obtain ⟨x, y⟩ := q; simp only [VRel] at h; obtain ⟨_, _, h, _⟩ := h; cases h
  | map q => cases q with
    | none => simp only [VRel] at h; cases h
    | some q => simp only [VRel] at h; obtain ⟨_, _, h⟩ := h; cases h
  | func _ _ | iface _ _ | agg _ | tuple _ => simp only [VRel] at h; obtain ⟨_, h, _⟩ := h; cases h

/-- Whether an operation is wanted. -/
theorem wanted_eq (r : FRel μ n aa a) {ops : Array Oper} {o : Oper} {g : Option (Nat × Bool)} (hg : compGuard ops o = some g) : Region.wanted o (yielded ops a.tmps) = wantedA g aa.tmps := by
  unfold compGuard at hg
  split at hg
  · rename_i e
    cases hg
    simp [Region.wanted, e, wantedA]
  · rename_i j want e
    split at hg
    · rename_i t ht
      split at hg
      · rename_i hlt
        cases hg
        have hr := r.tmps t hlt
        simp only [Region.wanted, e, wantedA, yielded, ht, Option.bind_some]
        cases hv : a.tmps[t]? with
        | none =>
          have hgd : a.tmps.getD t undef = undef := by simp [Array.getD_eq_getD_getElem?, hv]
          rw [hgd] at hr
          simp only
          split
          · rename_i b hb
            rw [hb] at hr
            simp only [VRel, undef] at hr
            cases hr
          · rfl
        | some v =>
          have hgd : a.tmps.getD t undef = v := by simp [Array.getD_eq_getD_getElem?, hv]
          rw [hgd] at hr
          cases v with
          | bool b =>
            have := hr.of_bool
            rw [this]
            cases b <;> cases want <;> rfl
          | _ =>
            have : (match tmpOf aa.tmps t with | .bool b => b == want | _ => false) = false := by
              split
              · rename_i b hb
                rw [hb] at hr
                simp only [VRel] at hr
                cases hr
              · rfl
            exact this.symm
      · cases hg
    · cases hg

/-- What abstract calls say of calls. -/
def CallOk (P : Program) (call : CallFn) : Prop :=
  ∀ (f : FuncId) (args : List AVal) (σ : Heap), match call f args σ with
    | .val r σ' =>
      (∃ fn, P.funcs[f]? = some fn ∧ fn.body.isSome = true ∧ (fn.name == "runtime.NumGoroutine") = false) ∧
      ∀ (μ : Mu) (w : World) (as : Array Value), Rel μ σ w → GRel P μ → VRels μ args as.toList →
        Calls P f as w fun e w' => ∃ v μ', e = .returned v ∧ Rel μ' σ' w' ∧ Ext μ σ w μ' σ' w' ∧ VRel μ' r v
    | .defr _ _ _ => False
    | _ => True

/-- What is to hold where an abstract run ends; nothing else ends well. -/
def Sat (n : Nat) (μ : Mu) (σ : Heap) (w : World) (res : Res) (Q : Exit → Act → World → Prop) : Prop :=
  match res with
  | .done .normal aa σ' => ∀ μ' a w', Rel μ' σ' w' → Ext μ σ w μ' σ' w' → FRel μ' n aa a → Q .normal a w'
  | .done (.exit id) aa σ' => ∀ μ' a w', Rel μ' σ' w' → Ext μ σ w μ' σ' w' → FRel μ' n aa a → Q (.exit id) a w'
  | .done .ret aa σ' => ∀ μ' a w', Rel μ' σ' w' → Ext μ σ w μ' σ' w' → FRel μ' n aa a → Q .ret a w'
  | .done (.panic _) _ _ => False
  | .fail => False

theorem Sat.trans {res : Res} {Q : Exit → Act → World → Prop} {μ1 : Mu} {σ1 : Heap} {w1 : World} (h : Sat n μ σ w res Q) (e : Ext μ σ w μ1 σ1 w1) : Sat n μ1 σ1 w1 res Q := by
  unfold Sat at h ⊢
  split at h <;> first
    | exact fun μ' a w' hr he hf => h μ' a w' hr (e.trans he) hf
    | exact h.elim

/-- What follows in the model, where a run follows abstractly. -/
def RunOk (P : Program) (n : Nat) (k : RunF) (K : Act → World → Prop) (Q : Exit → Act → World → Prop) : Prop :=
  ∀ (μ : Mu) (σ : Heap) (w : World) (aa : AAct) (a : Act), Rel μ σ w → GRel P μ → FRel μ n aa a → Sat n μ σ w (k aa σ) Q → K a w

theorem evOp_pure {aop : AOp} (h : aop.isCall = false) (call : CallFn) (ts : Tmps) (σ : Heap) : evOp aop call ts σ = evOp aop noCall ts σ := by
  cases aop <;> first | rfl | cases h

/-- The parts of an item. -/
theorem compItem_some {n : Nat} {ops : Array Oper} {o : Oper} {i : Item} (h : compItem P n ops o = some i) :
    compGuard ops o = some i.guard ∧ i.dst = o.dst ∧ i.op = (compOp P o).getD .bad ∧ (∀ d, o.dst = some d → d < n ∧ d < 256) := by
  unfold compItem at h
  split at h
  · rename_i g hg
    cases hd : o.dst with
    | none =>
      simp only [hd, if_true] at h
      cases h
      exact ⟨hg, rfl, rfl, fun d e => by cases e⟩
    | some d =>
      simp only [hd] at h
      split at h
      · rename_i hdd
        cases h
        refine ⟨hg, rfl, rfl, fun d' e => ?_⟩
        cases e
        simpa using hdd
      · cases h
  · cases h

/-- One operation of a region. -/
theorem itemSound {call : CallFn} (hcall : CallOk P call) (hg : GRel P μ) (r : Rel μ σ w) (f : FRel μ n aa a) {ops : Array Oper} {o : Oper} {i : Item} (hi : compItem P n ops o = some i) {k : RunF} {K : Act → World → Prop} {Q : Exit → Act → World → Prop}
    (hk : RunOk P n k K Q) (hs : Sat n μ σ w (execItem call i k aa σ) Q) :
    (if Region.wanted o (yielded ops a.tmps) then o.wp P a w K Q ∨ (o.asks P a w ∧ LetsOut Q) else K (a.put o.dst undef) w) := by
  obtain ⟨h1, h2, h3, h4⟩ := compItem_some hi
  rw [wanted_eq f h1]
  unfold execItem at hs
  cases hw : wantedA i.guard aa.tmps with
  | false =>
    rw [hw] at hs
    rw [if_neg (by simp)]
    exact hk μ σ w _ _ r hg (f.put h4 (VRel.undef μ)) (by rw [h2] at hs; exact hs)
  | true =>
    rw [hw] at hs
    rw [if_pos rfl]
    left
    dsimp only at hs
    have hopd := f.hopd hg
    cases hc : compOp P o with
    | none =>
      rw [h3, hc] at hs
      exact hs.elim
    | some aop =>
      rw [h3, hc, Option.getD_some, h2] at hs
      have next : ∀ {μ' : Mu} {σ' : Heap} {w' : World} {v : AVal} {x : Value}, Sat n μ σ w (k (aa.put o.dst v) σ') Q → Rel μ' σ' w' → Ext μ σ w μ' σ' w' → VRel μ' v x → K (a.put o.dst x) w' := by
        intro μ' σ' w' v x hsat hr' he' hv'
        exact hk μ' σ' w' _ _ hr' (hg.mono he'.mono) ((f.mono he'.mono).put h4 hv') (hsat.trans he')
      unfold Oper.wp
      cases hcl : aop.isCall with
      | false =>
        rw [evOp_pure hcl] at hs
        have hgood := opSound r hopd hc
        cases hev : evOp aop noCall aa.tmps σ with
        | val v σ' =>
          rw [hev] at hs hgood
          obtain ⟨μ', w', x, hx, hr', he', hv'⟩ := hgood
          rcases hx with hx | ⟨hx, rfl⟩
          · rw [hx]; exact next hs hr' he' hv'
          · rw [hx]; exact next hs hr' he' hv'
        | defr g args σ' =>
          rw [hev] at hs hgood
          obtain ⟨as, caps, hx, hσ, hv'⟩ := hgood
          rw [hσ] at hs
          rw [hx]
          refine hk μ σ w ⟨putT o.dst .undef aa.tmps, (g, args) :: aa.defers⟩ _ r hg ?_ hs
          have f' : FRel μ n ⟨aa.tmps, (g, args) :: aa.defers⟩ { a with defers := { target := .fn (.func g) caps, args := as } :: a.defers } :=
            ⟨f.size, f.tmps, f.full, ⟨_, _, caps, rfl, rfl, hv', f.defers⟩⟩
          exact f'.put h4 (VRel.undef μ)
        | panic v σ' => rw [hev] at hs; exact hs.elim
        | fail => rw [hev] at hs; exact hs.elim
      | true =>
        have docall : ∀ (g : FuncId) (args : List AVal) (as : Array Value), VRels μ args as.toList → Sat n μ σ w (afterOp (call g args σ) o.dst k aa) Q →
            ((∃ fn, P.funcs[g]? = some fn ∧ fn.body.isSome = true ∧ (fn.name == "runtime.NumGoroutine") = false) → (execOp a.eval o).run P w = .ok (.enter g as) w) → o.upon P a K Q ((execOp a.eval o).run P w) := by
          intro g args as hargs hsat hrun
          have hco := hcall g args σ
          cases hev : call g args σ with
          | val v σ' =>
            rw [hev] at hco hsat
            obtain ⟨hfn, hcalls⟩ := hco
            rw [hrun hfn]
            refine Calls.mono (hcalls μ w as r hg hargs) ?_
            rintro e w' ⟨x, μ', rfl, hr', he', hv'⟩
            exact next hsat hr' he' hv'
          | defr _ _ _ => rw [hev] at hco; exact hco.elim
          | panic _ _ => rw [hev] at hsat; exact hsat.elim
          | fail => rw [hev] at hsat; exact hsat.elim
        rcases compOp_isCall hc hcl with ⟨rfl, _⟩ | ⟨c, hop, ⟨g, xs, fn, rfl, hcal, hxs, hfn, hb⟩ | ⟨x, x', xs, rfl, hcal, hx, hxs⟩⟩
        · exact hs.elim
        · refine docall g (evs xs aa.tmps) (c.args.map a.eval) (hopds hopd hxs) hs ?_
          rintro ⟨fn', hf', hb', hn'⟩
          unfold execOp
          rw [hop]
          have hbn : ¬ fn'.body = none := fun e => by rw [e] at hb'; cases hb'
          have hnn : ¬ fn'.name = "runtime.NumGoroutine" := by simpa using hn'
          simp [resolve, hcal, Deferred.ofValue, func_opd hopd g, invoke, callFunc, program, Sem.run, hf', hbn, hnn]
        · have hs' : Sat n μ σ w (afterOp (oCallDyn x' xs call aa.tmps σ) o.dst k aa) Q := hs
          unfold oCallDyn at hs'
          have hrx := hopd _ _ hx
          split at hs'
          · rename_i g caps e1
            rw [e1] at hrx
            simp only [VRel] at hrx
            obtain ⟨vs, hv, hcs⟩ := hrx
            refine docall g (evs xs aa.tmps ++ caps) (c.args.map a.eval ++ vs) (by rw [Array.toList_append]; exact (hopds hopd hxs).append hcs) hs' ?_
            rintro ⟨fn', hf', hb', hn'⟩
            unfold execOp
            rw [hop]
            have hbn : ¬ fn'.body = none := fun e => by rw [e] at hb'; cases hb'
            have hnn : ¬ fn'.name = "runtime.NumGoroutine" := by simpa using hn'
            simp [resolve, hcal, Deferred.ofValue, hv, invoke, callFunc, program, Sem.run, hf', hbn, hnn]
          · exact hs'.elim

end
end Go.Ab
