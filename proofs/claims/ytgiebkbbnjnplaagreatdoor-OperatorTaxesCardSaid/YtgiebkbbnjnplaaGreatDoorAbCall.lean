/- Functions: results, deferred calls, calls. -/
import Derived.Test.YtgiebkbbnjnplaaGreatDoorAbCode2
import Derived.Recover
namespace Go.Ab
section
variable {P : Program} {μ : Mu} {σ : Heap} {w : World} {n : Nat} {aa : AAct} {a : Act}

/-- One result. -/
def resOf (tmps : Array Value) (x : ResultVar) : Sem Value :=
  match x with
  | .tmp t => pure (tmps.getD t undef)
  | .cell c t => do loadVar t (← asAddr (tmps.getD c undef))

theorem results_eq (fn : Func) (tmps : Array Value) : results fn tmps = (do
    let vs ← fn.results.mapM (resOf tmps)
    pure (if h : vs.size = 1 then vs[0] else .tuple vs)) := by
  unfold results
  congr 1

theorem result_rel (r : Rel μ σ w) (f : FRel μ n aa a) {x : ResultVar} {y : ARes} (hc : compRes P x = some y) {v : AVal} (hv : resultA aa.tmps σ y = some v) :
    ∃ u, (resOf a.tmps x).run P w = .ok u w ∧ VRel μ v u := by
  cases x with
  | tmp t =>
    simp only [compRes] at hc
    split at hc
    · rename_i ht
      cases hc
      cases hv
      exact ⟨_, rfl, f.tmps t ht⟩
    · cases hc
  | cell c t =>
    simp only [compRes] at hc
    split at hc
    · rename_i ht
      obtain ⟨m, hm, rfl⟩ := omap hc
      have hr := f.tmps c ht
      have hv' : loadAt σ m (tmpOf aa.tmps c) = some v := hv
      obtain ⟨u, hu, hur⟩ := run_loadAt (P := P) r hm hr hv'
      refine ⟨u, ?_, hur⟩
      have hp : ∃ ad, a.tmps.getD c undef = .pointer (some ad) := by
        unfold loadAt at hv'
        split at hv'
        · rename_i b o e
          rw [e] at hr
          obtain ⟨pl, _, hh⟩ := hr.ptr
          exact ⟨_, hh⟩
        · cases hv'
      obtain ⟨ad, had⟩ := hp
      rw [had] at hu
      show ((do loadVar t (← asAddr (a.tmps.getD c undef))) : Sem Value).run P w = _
      rw [had]
      exact hu
    · cases hc

theorem results_rel (r : Rel μ σ w) (f : FRel μ n aa a) {fn : Func} {rs : List ARes} (hc : mapO (compRes P) fn.results.toList = some rs) {v : AVal} (hv : resultsA rs aa.tmps σ = some v) :
    ∃ u, (results fn a.tmps).run P w = .ok u w ∧ VRel μ v u := by
  have key : ∀ (l : List ResultVar) (ys : List ARes) (vs : List AVal), mapO (compRes P) l = some ys → mapO (resultA aa.tmps σ) ys = some vs →
      ∃ us : List Value, (l.mapM (resOf a.tmps)).run P w = .ok us w ∧ VRels μ vs us := by
    intro l
    induction l with
    | nil =>
      intro ys vs h1 h2
      cases h1
      cases h2
      exact ⟨[], rfl, .nil⟩
    | cons x l ih =>
      intro ys vs h1 h2
      simp only [mapO] at h1
      cases hx : compRes P x with
      | none => rw [hx] at h1; cases h1
      | some y =>
        rw [hx] at h1
        simp only at h1
        cases hl : mapO (compRes P) l with
        | none => rw [hl] at h1; cases h1
        | some ys' =>
          rw [hl] at h1
          cases h1
          simp only [mapO] at h2
          cases hy : resultA aa.tmps σ y with
          | none => rw [hy] at h2; cases h2
          | some v =>
            rw [hy] at h2
            simp only at h2
            cases hl2 : mapO (resultA aa.tmps σ) ys' with
            | none => rw [hl2] at h2; cases h2
            | some vs' =>
              rw [hl2] at h2
              cases h2
              obtain ⟨u, hu, hur⟩ := result_rel (P := P) r f hx hy
              obtain ⟨us, hus, husr⟩ := ih ys' vs' hl hl2
              refine ⟨u :: us, ?_, .cons hur husr⟩
              rw [List.mapM_cons]
              simp only [Sem.run_bind, hu, hus, Result.andThen_ok, Sem.run_pure]
  unfold resultsA at hv
  split at hv
  · rename_i v' hvs
    cases hv
    obtain ⟨us, hus, hr⟩ := key _ _ _ hc hvs
    simp only [VRels] at hr
    obtain ⟨u, us', rfl, hu, rfl⟩ := hr
    refine ⟨u, ?_, hu⟩
    rw [results_eq, Array.mapM_eq_mapM_toList]
    simp only [Sem.run_bind, map_eq_pure_bind, hus, Result.andThen_ok, Sem.run_pure]
    rfl
  · rename_i vs hne hvs
    cases hv
    obtain ⟨us, hus, hr⟩ := key _ _ _ hc hvs
    refine ⟨.tuple us.toArray, ?_, by simp only [VRel]; exact ⟨_, rfl, by simpa using hr⟩⟩
    rw [results_eq, Array.mapM_eq_mapM_toList]
    simp only [Sem.run_bind, map_eq_pure_bind, hus, Result.andThen_ok, Sem.run_pure]
    have hl := hr.length
    have h1 : us.toArray.size ≠ 1 := by
      intro e
      have e' : vs.length = 1 := by simpa [hl] using e
      match vs, e' with
      | [v0], _ => exact hne v0 rfl
    rw [dif_neg h1]
  · cases hv

end
end Go.Ab
