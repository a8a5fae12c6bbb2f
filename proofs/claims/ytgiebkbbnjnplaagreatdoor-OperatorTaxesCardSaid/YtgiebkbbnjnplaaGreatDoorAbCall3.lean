/- Calls. -/
import Derived.Test.YtgiebkbbnjnplaaGreatDoorAbCall2
namespace Go.Ab

theorem layArgs_get : ∀ (args : List AVal) (k : Nat) (ts : Tmps), ts.full 4 → k + args.length ≤ 256 → (layArgs args k ts).full 4 ∧
    ∀ t, t < 256 → tmpOf (layArgs args k ts) t = if k ≤ t ∧ t < k + args.length then (args[t - k]?).getD .undef else tmpOf ts t
  | [], k, ts, hf, _ => ⟨hf, fun t _ => by rw [if_neg (by simp)]; rfl⟩
  | x :: xs, k, ts, hf, hl => by
    obtain ⟨h1, h2⟩ := layArgs_get xs (k + 1) (setTmp ts k x) (setTmp_full hf k x) (by simp at hl; omega)
    refine ⟨h1, fun t ht => ?_⟩
    have e : layArgs (x :: xs) k ts = layArgs xs (k + 1) (setTmp ts k x) := rfl
    rw [e, h2 t ht, tmpOf_setTmp hf (by simp at hl; omega) ht]
    by_cases c1 : t = k
    · subst c1
      rw [if_neg (by omega), if_pos rfl, if_pos (by simp)]
      simp
    · by_cases c2 : k ≤ t ∧ t < k + (xs.length + 1)
      · rw [if_pos (by omega), if_pos (by simpa using c2)]
        rw [show t - k = (t - (k + 1)) + 1 from by omega]
        simp
      · rw [if_neg (by omega), if_neg c1, if_neg (by simpa using c2)]

section
variable {P : Program} {μ : Mu} {σ : Heap} {w : World}

/-- The frame of a call. -/
theorem frame_rel {fn : Func} {afn : AFunc} {args : List AVal} {as : Array Value} (hv : VRels μ args as.toList) (hl : args.length ≤ 256) :
    FRel μ fn.ntmps (frameOf afn args) { tmps := as ++ Array.replicate (fn.ntmps - as.size) undef, defers := [] } := by
  obtain ⟨h1, h2⟩ := layArgs_get args 0 .empty Tmps.empty_full (by omega)
  have hs : as.size = args.length := by simpa using hv.length
  refine ⟨by simp; omega, ?_, h1, rfl⟩
  intro t ht
  show VRel μ (tmpOf (layArgs args 0 .empty) t) _
  rw [h2 t ht]
  by_cases c : t < args.length
  · rw [if_pos (by omega)]
    obtain ⟨v, hv1, hv2⟩ := hv.get t args[t] (List.getElem?_eq_getElem c)
    have hv1' : as[t]? = some v := by simpa using hv1
    have : (as ++ Array.replicate (fn.ntmps - as.size) undef).getD t undef = v := by
      simp only [Array.getD_eq_getD_getElem?]
      rw [Array.getElem?_append_left (by omega), hv1']
      rfl
    rw [this, show t - 0 = t from rfl, List.getElem?_eq_getElem c]
    exact hv2
  · rw [if_neg (by omega), tmpOf_empty]
    have : (as ++ Array.replicate (fn.ntmps - as.size) undef).getD t undef = undef := by
      simp only [Array.getD_eq_getD_getElem?]
      rw [Array.getElem?_append_right (by omega)]
      cases hx : (Array.replicate (fn.ntmps - as.size) undef)[t - as.size]? with
      | none => rfl
      | some x =>
        rw [Array.getElem?_replicate] at hx
        split at hx
        · cases hx; rfl
        · cases hx
    rw [this]
    exact VRel.undef μ

/-- A table holds what the program's functions compile to. -/
def TblOk (P : Program) (tbl : FuncId → Option AFunc) : Prop := ∀ f afn, tbl f = some afn → ∃ fn, P.funcs[f]? = some fn ∧ compFunc P fn = some afn

theorem compFunc_some {fn : Func} {afn : AFunc} (h : compFunc P fn = some afn) :
    ∃ c, fn.body = some c ∧ mapO (compRes P) fn.results.toList = some afn.results ∧ (fn.name == "runtime.NumGoroutine") = false ∧ afn.body = compCode P fn.ntmps c := by
  unfold compFunc at h
  split at h
  · cases h
  · rename_i c hc
    split at h
    · rename_i rs hrs
      split at h
      · rename_i hn
        cases h
        exact ⟨c, hc, hrs, by simpa using hn, rfl⟩
      · cases h
    · cases h

/-- The deferred calls of a frame that returns. -/
theorem defersSound {tbl : FuncId → Option AFunc} (htbl : TblOk P tbl) {call : CallFn} (hcall : CallOk P call) {fn : Func} {tmps : Array Value} {R : Ending → World → Prop} : ∀ (ads : List (FuncId × List AVal)) (ds : List Deferred) (μ : Mu) (σ : Heap) (w : World) (σ' : Heap),
    Rel μ σ w → GRel P μ → DRel μ ads ds → evDefers tbl call ads σ = some σ' →
    (∀ μ' w', Rel μ' σ' w' → Ext μ σ w μ' σ' w' → ∃ v, (results fn tmps).run P w' = .ok v w' ∧ R (.returned v) w') → Leaves P fn tmps R ds .returning w
  | [], ds, μ, σ, w, σ', r, _, hd, he, hR => by
    have hd' : ds = [] := hd
    subst hd'
    have he' : some σ = some σ' := he
    cases he'
    exact hR μ w r (.refl _ _ _)
  | (g, args) :: ads, ds, μ, σ, w, σ', r, hg, hd, he, hR => by
    obtain ⟨d, rest, caps, rfl, ht, hv, hrest⟩ := hd
    simp only [evDefers] at he
    cases hf : tbl g with
    | none => rw [hf] at he; cases he
    | some afn =>
      rw [hf] at he
      dsimp only at he
      cases hc : Nat.ble (len args) 256 with
      | false => rw [hc] at he; cases he
      | true =>
        rw [hc] at he
        dsimp only at he
        have hle := Nat.le_of_ble_eq_true hc
        obtain ⟨gfn, hgf, hcf⟩ := htbl g afn hf
        obtain ⟨c, hb, hrs, hn, hbody⟩ := compFunc_some hcf
        have hnn : ¬ gfn.name = "runtime.NumGoroutine" := by simpa using hn
        have hfr := frame_rel (fn := gfn) (afn := afn) (μ := μ) (args := args) (as := d.args ++ caps) (by rw [Array.toList_append]; exact hv) (by rw [← len_eq]; exact hle)
        obtain ⟨dt, da⟩ := d
        dsimp only at ht hv hfr
        subst ht
        refine leaves_cons (by simp) (f := g) (args := da ++ caps) (by simp [invoke, callFunc, program, Sem.run, hgf, hnn, hb]) ?_
        refine callsD_of_wpS hgf hb ?_
        intro c₀ cs hm
        have hrec : recoverD (c₀ :: cs) = none := by simp [recoverD, hm]
        have hc0 : c₀ = { c₀ with mode := .returning } := by cases c₀; simp at hm; subst hm; rfl
        let Q : Exit → Act → World → Prop := fun e a w' => match e with
          | .normal => a.defers = [] ∧ ∃ v, (results gfn a.tmps).run P w' = .ok v w' ∧ Leaves P fn tmps R rest .returning w'
          | .ret => a.defers = [] ∧ ∃ v, (results gfn a.tmps).run P w' = .ok v w' ∧ Leaves P fn tmps R rest .returning w'
          | _ => False
        have hsat : Sat gfn.ntmps μ σ w (evCodeD call (compCode P gfn.ntmps c) (frameOf afn args) σ) Q := by
          have fin : ∀ (aa' : AAct) (σ1 : Heap), (Bool.casesOn (isNil aa'.defers && (resultsA afn.results aa'.tmps σ1).isSome) none (evDefers tbl call ads σ1) : Option Heap) = some σ' →
              ∀ μ' a w', Rel μ' σ1 w' → Ext μ σ w μ' σ1 w' → FRel μ' gfn.ntmps aa' a → a.defers = [] ∧ ∃ v, (results gfn a.tmps).run P w' = .ok v w' ∧ Leaves P fn tmps R rest .returning w' := by
            intro aa' σ1 hx μ' a w' r' e' f'
            cases hb2 : (isNil aa'.defers && (resultsA afn.results aa'.tmps σ1).isSome) with
            | false => rw [hb2] at hx; cases hx
            | true =>
              rw [hb2] at hx
              dsimp only at hx
              simp only [Bool.and_eq_true] at hb2
              obtain ⟨hn1, hn2⟩ := hb2
              have hdn := f'.defers
              rw [isNil_eq hn1] at hdn
              have hdn' : a.defers = [] := hdn
              obtain ⟨v, hv'⟩ := Option.isSome_iff_exists.1 hn2
              obtain ⟨u, hu, _⟩ := results_rel r' f' hrs hv'
              refine ⟨hdn', u, hu, ?_⟩
              exact defersSound htbl hcall ads rest μ' σ1 w' σ' r' (hg.mono e'.mono) (hrest.mono e'.mono) hx (fun μ2 w2 r2 e2 => hR μ2 w2 r2 (e'.trans e2))
          rw [← hbody]
          generalize evCodeD call afn.body (frameOf afn args) σ = res at he
          cases res with
          | fail => cases he
          | done e aa' σ1 =>
            cases e with
            | normal => exact fin aa' σ1 he
            | ret => exact fin aa' σ1 he
            | exit id => cases he
            | panic v => cases he
        have hwp := codeSoundD (n := gfn.ntmps) hcall hrec c Q μ σ w (frameOf afn args) _ r hg hfr hsat
        intro b k hb' hr'
        obtain ⟨e, a', cs', w', ⟨rfl, hq⟩, harr⟩ := hwp b k hb' hr'
        refine ⟨e, a', c₀ :: cs, w', ?_, harr⟩
        cases e with
        | normal =>
          obtain ⟨q1, v, q2, q3⟩ := hq
          exact ⟨q1, .returning, by rw [← hc0], v, q2, q3⟩
        | ret =>
          obtain ⟨q1, v, q2, q3⟩ := hq
          exact ⟨q1, .returning, by rw [← hc0], v, q2, q3⟩
        | exit id => exact hq.elim
        | goto l => exact hq.elim
        | panic ch => exact hq.elim
        | outgrown => exact hq.elim

end
end Go.Ab
