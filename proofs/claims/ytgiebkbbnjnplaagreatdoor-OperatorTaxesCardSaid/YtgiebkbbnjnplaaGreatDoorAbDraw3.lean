/- Regions that draw their order: names grow; one operation under a view of the temporaries; blocks that are there already. -/
import Derived.Test.YtgiebkbbnjnplaaGreatDoorAbDraw2
namespace Go.Ab

theorem storeN_next {σ σ' : Heap} {b o : Nat} {vs : List AVal} (h : σ.storeN b o vs = some σ') : σ'.next = σ.next := by
  unfold Heap.storeN at h
  generalize allOne vs = t at h
  cases t with
  | false => cases h
  | true =>
    dsimp only at h
    split at h
    · split at h
      · cases h; rfl
      · cases h
    · cases h

theorem Out.heap_next {v v' : AVal} {σ σ' : Heap} {r : Option Heap} (hr : ∀ s, r = some s → s.next = σ.next) (h : Out.heap v r = .val v' σ') : σ.next ≤ σ'.next := by
  cases r with
  | none => cases h
  | some s => cases h; rw [hr _ rfl]; exact Nat.le_refl _

theorem appendA_next {esz bytes : Nat} {σ : Heap} {s : AVal} {xs : List AVal} {n : Nat} {v : AVal} {σ' : Heap} (h : appendA esz bytes σ s xs n = .val v σ') : σ.next ≤ σ'.next := by
  unfold appendA at h
  split at h
  · rename_i a ln cap ex esz'
    dsimp only at h
    generalize Nat.ble (Nat.add ln n) cap = t at h
    cases t with
    | false =>
      dsimp only at h
      generalize (Nat.ble (Nat.mul (Nat.add ln n) bytes) 1099511627776 && Nat.ble (Nat.add ln n) 1099511627776 && Nat.ble 1 bytes && allOne xs) = t at h
      cases t with
      | false => cases h
      | true =>
        dsimp only at h
        split at h
        · cases h; exact Nat.le_succ _
        · generalize Nat.beq esz' esz = t at h
          cases t with
          | false => cases h
          | true =>
            dsimp only at h
            split at h
            · cases h
            · cases h
              cases ex <;> exact Nat.le_succ _
    | true =>
      dsimp only at h
      split at h
      · generalize isNil xs = t at h
        cases t <;> cases h
        exact Nat.le_refl _
      · generalize Nat.beq esz' esz = t at h
        cases t with
        | false => cases h
        | true =>
          dsimp only at h
          generalize isNil xs = t at h
          cases t with
          | false => exact Out.heap_next (fun s hs => storeN_next hs) h
          | true => cases h; exact Nat.le_refl _
  · cases h

theorem chain_next {o : AOp} (hs : sortOf o = .chain) (hc : o.isCall = false) {call : CallFn} {ts : Tmps} {σ : Heap} {v : AVal} {σ' : Heap} (h : evOp o call ts σ = .val v σ') : σ.next ≤ σ'.next := by
  cases o <;> first | (cases hs; done) | (cases hc; done) | skip
  case bytesOf x =>
    have h' : oBytesOf x ts σ = .val v σ' := h
    unfold oBytesOf at h'
    split at h'
    · rename_i s _
      generalize Nat.ble (len s) 4294967296 = t at h'
      cases t <;> cases h'
      exact Nat.le_succ _
    · cases h'
  case store n a x =>
    have h' : oStore n a x ts σ = .val v σ' := h
    unfold oStore at h'
    split at h'
    · generalize Nat.beq (len (x.ev ts).cells) n = t at h'
      cases t with
      | false => cases h'
      | true => exact Out.heap_next (fun s hs => storeN_next hs) h'
    · cases h'
  case mapUpdate ck m k v =>
    have h' : oMapUpdate ck m k v ts σ = .val _ σ' := h
    unfold oMapUpdate at h'
    split at h'
    · split at h'
      · split at h' <;> cases h'
        exact Nat.le_refl _
      · cases h'
    · cases h'
  case append e b s x =>
    have h' : oAppend e b s x ts σ = .val v σ' := h
    unfold oAppend at h'
    split at h'
    · cases h'
    · split at h'
      · cases h'
      · exact appendA_next h'
  case copy e d s =>
    have h' : oCopy e d s ts σ = .val v σ' := h
    unfold oCopy at h'
    split at h'
    · split at h'
      · cases h'
      · rename_i a dLen _ _ esz' _ _ m _
        dsimp only at h'
        split at h'
        · cases h'
        · rename_i xs _
          split at h'
          · generalize isNil xs = t at h'
            cases t <;> cases h'
            exact Nat.le_refl _
          · generalize Nat.beq esz' e = t at h'
            cases t with
            | false => cases h'
            | true =>
              dsimp only at h'
              generalize isNil xs = t at h'
              cases t with
              | false => exact Out.heap_next (fun s hs => storeN_next hs) h'
              | true => cases h'; exact Nat.le_refl _
    · cases h'
  case delete ck m k =>
    have h' : oDelete ck m k ts σ = .val v σ' := h
    unfold oDelete at h'
    split at h'
    · cases h'; exact Nat.le_refl _
    · split at h'
      · split at h' <;> cases h'
        exact Nat.le_refl _
      · cases h'
    · cases h'
  case panic x =>
    have h' : oPanic x ts σ = .val v σ' := h
    unfold oPanic at h'
    split at h' <;> cases h'
  case deferFn x xs =>
    have h' : oDefer x xs ts σ = .val v σ' := h
    unfold oDefer at h'
    split at h' <;> cases h'
  case rangeStr x =>
    have h' : oRangeStr x ts σ = .val v σ' := h
    unfold oRangeStr at h'
    split at h' <;> cases h'
    exact Nat.le_succ _
  case nextStr x =>
    have h' : oNextStr x ts σ = .val v σ' := h
    unfold oNextStr at h'
    split at h'
    · split at h'
      · split at h'
        · cases h'; exact Nat.le_refl _
        · rename_i c _
          generalize Nat.ble c.toNat 127 = t at h'
          cases t <;> cases h'
          exact Nat.le_refl _
      · cases h'
    · cases h'
  case bad => cases h

theorem evOp_next {o : AOp} {call : CallFn} (hcall : NextOk call) {ts : Tmps} {σ : Heap} {v : AVal} {σ' : Heap} (h : evOp o call ts σ = .val v σ') : σ.next ≤ σ'.next := by
  cases hs : sortOf o with
  | pure => rw [(pureShape hs h).1]; exact Nat.le_refl _
  | read => rw [readShape hs h]; exact Nat.le_refl _
  | fresh =>
    obtain ⟨ob, e, _⟩ := freshShape hs h
    rw [e]; exact Nat.le_succ _
  | chain =>
    cases hc : o.isCall with
    | false => exact chain_next hs hc h
    | true =>
      cases o <;> first | (cases hc; done) | skip
      case call g xs => exact hcall _ _ _ _ _ h
      case recover => cases h
      case callDyn x xs =>
        have h' : oCallDyn x xs call ts σ = .val v σ' := h
        unfold oCallDyn at h'
        split at h'
        · exact hcall _ _ _ _ _ h'
        · cases h'

section
variable {P : Program} {μ : Mu} {σ : Heap} {w : World}

/-- One operation, wanted, whose operands are seen through ρ. -/
theorem opStep {call : CallFn} (hcall : CallOk P call) (hg : GRel P μ) (r : Rel μ σ w) {ts : Tmps} {ρ : Operand → Value} (hopd : HOpd P μ ts ρ) {o : Oper} {aop : AOp} (hc : compOp P o = some aop)
    {v : AVal} {σ' : Heap} (hev : evOp aop call ts σ = .val v σ') {a : Act} {K : Act → World → Prop} {Q : Exit → Act → World → Prop}
    (next : ∀ μ' w' x, Rel μ' σ' w' → Ext μ σ w μ' σ' w' → VRel μ' v x → K (a.put o.dst x) w') : o.upon P a K Q ((execOp ρ o).run P w) := by
  cases hcl : aop.isCall with
  | false =>
    rw [evOp_pure hcl] at hev
    have hgood := opSound r hopd hc
    rw [hev] at hgood
    obtain ⟨μ', w', x, hx, hr', he', hv'⟩ := hgood
    rcases hx with hx | ⟨hx, rfl⟩
    · rw [hx]; exact next _ _ _ hr' he' hv'
    · rw [hx]; exact next _ _ _ hr' he' hv'
  | true =>
    have docall : ∀ (g : FuncId) (args : List AVal) (as : Array Value), VRels μ args as.toList → call g args σ = .val v σ' →
        ((∃ fn, P.funcs[g]? = some fn ∧ fn.body.isSome = true ∧ (fn.name == "runtime.NumGoroutine") = false) → (execOp ρ o).run P w = .ok (.enter g as) w) → o.upon P a K Q ((execOp ρ o).run P w) := by
      intro g args as hargs hcv hrun
      have hco := hcall g args σ
      rw [hcv] at hco
      obtain ⟨hfn, hcalls⟩ := hco
      rw [hrun hfn]
      refine Calls.mono (hcalls μ w as r hg hargs) ?_
      rintro e w' ⟨x, μ', rfl, hr', he', hv'⟩
      exact next _ _ _ hr' he' hv'
    rcases compOp_isCall hc hcl with ⟨rfl, _⟩ | ⟨c, hop, ⟨g, xs, fn, rfl, hcal, hxs, hfn, hb⟩ | ⟨x, x', xs, rfl, hcal, hx, hxs⟩⟩
    · cases hev
    · refine docall g (evs xs ts) (c.args.map ρ) (hopds hopd hxs) hev ?_
      rintro ⟨fn', hf', hb', hn'⟩
      unfold execOp
      rw [hop]
      have hbn : ¬ fn'.body = none := fun e => by rw [e] at hb'; cases hb'
      have hnn : ¬ fn'.name = "runtime.NumGoroutine" := by simpa using hn'
      simp [resolve, hcal, Deferred.ofValue, func_opd hopd g, invoke, callFunc, program, Sem.run, hf', hbn, hnn]
    · have hev' : oCallDyn x' xs call ts σ = .val v σ' := hev
      unfold oCallDyn at hev'
      have hrx := hopd _ _ hx
      split at hev'
      · rename_i g caps e1
        rw [e1] at hrx
        simp only [VRel] at hrx
        obtain ⟨vs, hv, hcs⟩ := hrx
        refine docall g (evs xs ts ++ caps) (c.args.map ρ ++ vs) (by rw [Array.toList_append]; exact (hopds hopd hxs).append hcs) hev' ?_
        rintro ⟨fn', hf', hb', hn'⟩
        unfold execOp
        rw [hop]
        have hbn : ¬ fn'.body = none := fun e => by rw [e] at hb'; cases hb'
        have hnn : ¬ fn'.name = "runtime.NumGoroutine" := by simpa using hn'
        simp [resolve, hcal, Deferred.ofValue, hv, invoke, callFunc, program, Sem.run, hf', hbn, hnn]
      · cases hev'

/-- Whether an operation is wanted, by the guard's temporary alone. -/
theorem wanted_of {ops : Array Oper} {o : Oper} {g : Option (Nat × Bool)} {ts : Tmps} {a : Act} (hg : compGuard ops o = some g)
    (hr : ∀ t b, g = some (t, b) → t < 256 → VRel μ (tmpOf ts t) (a.tmps.getD t undef)) : Region.wanted o (yielded ops a.tmps) = wantedA g ts := by
  unfold compGuard at hg
  split at hg
  · rename_i e
    cases hg
    simp [Region.wanted, e, wantedA]
  · rename_i j want e
    split at hg
    · rename_i t ht
      split at hg
      · rename_i hlt
        cases hg
        have hr := hr t want rfl hlt
        simp only [Region.wanted, e, wantedA, yielded, ht, Option.bind_some]
        cases hv : a.tmps[t]? with
        | none =>
          have hgd : a.tmps.getD t undef = undef := by simp [Array.getD_eq_getD_getElem?, hv]
          rw [hgd] at hr
          simp only
          split
          · rename_i b hb
            rw [hb] at hr
            simp only [VRel, undef] at hr
            cases hr
          · rfl
        | some v =>
          have hgd : a.tmps.getD t undef = v := by simp [Array.getD_eq_getD_getElem?, hv]
          rw [hgd] at hr
          cases v with
          | bool b =>
            have := hr.of_bool
            rw [this]
            cases b <;> cases want <;> rfl
          | _ =>
            have : (match tmpOf ts t with | .bool b => b == want | _ => false) = false := by
              split
              · rename_i b hb
                rw [hb] at hr
                simp only [VRel] at hr
                cases hr
              · rfl
            exact this.symm
      · cases hg
    · cases hg

/-! Names below a bound. -/

def cut (ν : Mu) (N : Nat) : Mu := fun b => if b < N then ν b else none

theorem cut_le (ν : Mu) (N : Nat) : (cut ν N).le ν := by
  intro b m h
  unfold cut at h
  split at h
  · exact h
  · cases h
theorem cut_mono {ν : Mu} {N M : Nat} (h : N ≤ M) : (cut ν N).le (cut ν M) := by
  intro b m hb
  unfold cut at hb ⊢
  split at hb
  · rw [if_pos (by omega)]; exact hb
  · cases hb
theorem cut_of_le {ν ν' : Mu} (h : ν.le ν') (N : Nat) : (cut ν N).le (cut ν' N) := by
  intro b m hb
  unfold cut at hb ⊢
  split at hb
  · rename_i hlt; rw [if_pos hlt]; exact h b m hb
  · cases hb
theorem cut_lt {ν : Mu} {N b : Nat} (h : b < N) : cut ν N b = ν b := if_pos h
theorem cut_ge {ν : Mu} {N b : Nat} (h : N ≤ b) : cut ν N b = none := if_neg (by omega)
theorem cut_cut {ν : Mu} {N M : Nat} (h : N ≤ M) : cut (cut ν M) N = cut ν N := by
  funext b
  unfold cut
  by_cases hb : b < N
  · rw [if_pos hb, if_pos hb, if_pos (by omega)]
  · rw [if_neg hb, if_neg hb]
theorem cut_succ {ν : Mu} {N : Nat} {m : Pl} (h : ν N = some m) : cut ν (N + 1) = (cut ν N).put N m := by
  funext b
  unfold cut Mu.put
  by_cases hb : b = N
  · subst hb; rw [if_pos (by omega), if_pos rfl, h]
  · rw [if_neg hb]
    dsimp only
    by_cases hlt : b < N
    · rw [if_pos hlt, if_pos (by omega)]
    · rw [if_neg hlt, if_neg (by omega)]
/-- A map that goes on with no new name is the same. -/
theorem map_same {ν : Mu} {N : Nat} {μ' : Mu} {σ' : Heap} {w' : World} (r' : Rel μ' σ' w') (hn : σ'.next = N) (ho : ∀ b, b < N → μ' b = ν b) : μ' = cut ν N := by
  funext b
  by_cases hb : b < N
  · rw [cut_lt hb]; exact ho b hb
  · rw [cut_ge (by omega)]; exact r'.fresh b (by omega)

/-- A block that is there already is named. -/
theorem Rel.adopt (r : Rel μ σ w) {ob : AObj} {m : Pl} (hm : ∀ b o m', σ.get b = some o → μ b = some m' → m'.p ≠ m.p) (ho : ORel (μ.put σ.next m) w m ob) : Rel (μ.put σ.next m) (σ.new ob) w := by
  have hle : μ.le (μ.put σ.next m) := Mu.put_le m (r.fresh _ (Nat.le_refl _))
  have hne : ∀ b m', b ≠ σ.next → (μ.put σ.next m) b = some m' → μ b = some m' := by
    intro b m' hb h
    unfold Mu.put at h
    rwa [if_neg hb] at h
  have self : (μ.put σ.next m) σ.next = some m := by simp [Mu.put]
  refine ⟨?_, ?_, ?_⟩
  · intro b hb
    have hb' : σ.next + 1 ≤ b := hb
    unfold Mu.put
    rw [if_neg (by omega)]
    exact r.fresh b (by omega)
  · intro b o' hb
    rw [Heap.get_new] at hb
    by_cases e : b = σ.next
    · rw [if_pos e] at hb
      cases hb
      subst e
      exact ⟨m, self, ho⟩
    · rw [if_neg e] at hb
      obtain ⟨m', hm', ho'⟩ := r.objs b o' hb
      exact ⟨m', hle b m' hm', ho'.mono hle⟩
  · intro b1 b2 o1 o2 m1 m2 h1 h2 e1 e2 e3
    rw [Heap.get_new] at h1 h2
    by_cases c1 : b1 = σ.next <;> by_cases c2 : b2 = σ.next
    · rw [c1, c2]
    · rw [if_neg c2] at h2
      rw [c1, self] at e1
      cases e1
      exact absurd e3.symm (hm b2 o2 m2 h2 (hne _ _ c2 e2))
    · rw [if_neg c1] at h1
      rw [c2, self] at e2
      cases e2
      exact absurd e3 (hm b1 o1 m1 h1 (hne _ _ c1 e1))
    · rw [if_neg c1] at h1
      rw [if_neg c2] at h2
      exact r.inj b1 b2 o1 o2 m1 m2 h1 h2 (hne _ _ c1 e1) (hne _ _ c2 e2) e3

theorem Ext.adopt {μ0 : Mu} {σ0 : Heap} {w0 : World} (e : Ext μ0 σ0 w0 μ σ w) (r : Rel μ σ w) {ob : AObj} {m : Pl} (hp : w0.heap.size ≤ m.p) : Ext μ0 σ0 w0 (μ.put σ.next m) (σ.new ob) w := by
  have hle : μ.le (μ.put σ.next m) := Mu.put_le m (r.fresh _ (Nat.le_refl _))
  refine ⟨e.mono.trans hle, e.size, Nat.le_trans e.next (Nat.le_succ _), ?_, e.frame, e.os, e.output, e.tape, ?_, e.kind⟩
  · intro b o m' hb hm'
    rw [Heap.get_new] at hb
    by_cases c : b = σ.next
    · subst c
      simp [Mu.put] at hm'
      subst hm'
      exact .inl hp
    · rw [if_neg c] at hb
      unfold Mu.put at hm'
      rw [if_neg c] at hm'
      exact e.owned b o m' hb hm'
  · intro b hb
    unfold Mu.put
    rw [if_neg (by have := e.next; omega)]
    exact e.old b hb

/-- A world in which all blocks that were there are as they were. -/
structure Kept (w w' : World) : Prop where
  size : w.heap.size ≤ w'.heap.size
  keep : ∀ q, q < w.heap.size → w'.heap[q]? = w.heap[q]?
  os : w'.os = w.os
  output : w'.output = w.output
  tape : w'.tape = w.tape

theorem Rel.kept (r : Rel μ σ w) {w' : World} (k : Kept w w') : Rel μ σ w' :=
  ⟨r.fresh, fun b o hb => let ⟨m, e, ho⟩ := r.objs b o hb; ⟨m, e, ho.world (k.keep _ ho.lt)⟩, r.inj⟩
theorem Ext.kept {w' : World} (k : Kept w w') : Ext μ σ w μ σ w' :=
  ⟨.refl μ, k.size, Nat.le_refl _, fun b o m h h' => .inr ⟨b, o, m, h, h', rfl⟩, fun q hq _ => k.keep q hq, k.os, k.output, k.tape, fun _ _ => rfl, .of_keep k.keep⟩
/-- What goes on from no block at all keeps all blocks. -/
theorem Kept.of_empty {N : Nat} {μ' : Mu} {σ' : Heap} {w' : World} (e : Ext μ ⟨N, .leaf⟩ w μ' σ' w') : Kept w w' :=
  ⟨e.size, fun q hq => e.frame q hq (fun _ _ _ h => (nomatch h)), e.os, e.output, e.tape⟩
theorem Rel.empty {N : Nat} (h : ∀ b, N ≤ b → μ b = none) : Rel μ ⟨N, .leaf⟩ w :=
  ⟨h, fun _ _ h => (nomatch h), fun _ _ _ _ _ _ h => (nomatch h)⟩

end

/-- Temporaries of which only some are kept. -/
theorem keepT (p : Nat → Bool) (ts : Tmps) (hf : ts.full 4) : ∃ ts' : Tmps, ts'.full 4 ∧ ∀ t, t < 256 → tmpOf ts' t = if p t then tmpOf ts t else .undef := by
  have key : ∀ n, n ≤ 256 → ∃ ts' : Tmps, ts'.full 4 ∧ ∀ t, t < 256 → tmpOf ts' t = if t < n ∧ p t = false then .undef else tmpOf ts t := by
    intro n
    induction n with
    | zero => intro _; exact ⟨ts, hf, fun t _ => by simp⟩
    | succ n ih =>
      intro hn
      obtain ⟨ts', hf', ht⟩ := ih (by omega)
      cases hp : p n with
      | true =>
        refine ⟨ts', hf', fun t h => ?_⟩
        rw [ht t h]
        by_cases e : t = n
        · subst e; simp [hp]
        · by_cases h1 : t < n
          · simp [h1, show t < n + 1 from by omega]
          · simp [h1, show ¬ t < n + 1 from by omega]
      | false =>
        refine ⟨setTmp ts' n .undef, setTmp_full hf' _ _, fun t h => ?_⟩
        rw [tmpOf_setTmp hf' (by omega) h, ht t h]
        by_cases e : t = n
        · subst e; simp [hp]
        · rw [if_neg e]
          by_cases h1 : t < n
          · simp [h1, show t < n + 1 from by omega]
          · simp [h1, show ¬ t < n + 1 from by omega]
  obtain ⟨ts', hf', ht⟩ := key 256 (Nat.le_refl _)
  refine ⟨ts', hf', fun t h => ?_⟩
  rw [ht t h]
  cases p t <;> simp [h]

end Go.Ab
