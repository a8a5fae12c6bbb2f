/- Operations, one by one. Part F: composites, slices, places. -/
import Derived.Test.YtgiebkbbnjnplaaGreatDoorAbOpsE
import Derived.Laws.Strings2
namespace Go.Ab
section
variable {P : Program} {μ : Mu} {σ : Heap} {w : World} {ts : Tmps} {ρ : Operand → Value}

/-- Cells laid over an array, one by one. -/
theorem foldl_set : ∀ (vs : List Value) (j off : Nat) (c : Array Value), off + j + vs.length ≤ c.size →
    (vs.zipIdx j).foldl (fun cs (x : Value × Nat) => cs.setIfInBounds (off + x.2) x.1) c = (c.toList.take (off + j) ++ vs ++ c.toList.drop (off + j + vs.length)).toArray
  | [], j, off, c, _ => by simp
  | v :: vs, j, off, c, h => by
    have ih := foldl_set vs (j + 1) off (c.setIfInBounds (off + j) v) (by simp at h ⊢; omega)
    simp only [List.zipIdx_cons, List.foldl_cons]
    rw [ih]
    congr 1
    have e' := list_seg_step c.toList (off + j) v vs (by simp at h ⊢; omega)
    simpa [Array.toList_setIfInBounds, Nat.add_assoc] using e'

theorem VRels.over {as bs cs : List AVal} {vs ws : List Value} {o : Nat} (h : VRels μ as vs) (h' : VRels μ bs ws) (e : overAt? as bs o = some cs) :
    VRels μ cs (vs.take o ++ ws ++ vs.drop (o + ws.length)) := by
  obtain ⟨e0, _⟩ := overAt?_some _ _ _ _ e
  rw [e0, h'.length]
  exact ((h.take o).append h').append (h.drop _)

theorem fill_rel {place : Nat → Option (Nat × Nat)} : ∀ (parts : List (Nat × Operand)) (ps : List ((Nat × Nat) × Opd)), HOpd P μ ts ρ → 
    (ps.length = parts.length ∧ ∀ (i : Nat) (a : Nat × Operand), parts[i]? = some a → ∃ b, (place a.1 = some b.1 ∧ compOpd P a.2 = some b.2) ∧ ps[i]? = some b) →
    ∀ (as cs : List AVal) (c : Array Value), VRels μ as c.toList → fillA ps ts as = some cs →
    ∃ c', Instr.fill place c (parts.map fun p => (p.1, ρ p.2)) = some c' ∧ VRels μ cs c'.toList
  | [], ps, h, hp, as, cs, c, hr, he => by
    have : ps = [] := List.length_eq_zero_iff.1 (by simpa using hp.1)
    subst this
    have he' : some as = some cs := he
    cases he'
    exact ⟨c, rfl, hr⟩
  | p :: parts, [], h, hp, as, cs, c, hr, he => by simp at hp
  | p :: parts, ((qo, qn), qx) :: ps, h, hp, as, cs, c, hr, he => by
    have ih := fill_rel (place := place) parts ps h ⟨by simpa using hp.1, fun i a ha => by simpa using hp.2 (i + 1) a (by simpa using ha)⟩
    obtain ⟨b, ⟨hb1, hb2⟩, hb3⟩ := hp.2 0 p (by simp)
    simp at hb3
    subst hb3
    have he' : (Bool.casesOn (Nat.beq (len (qx.ev ts).cells) qn) none (Option.casesOn (overAt? as (qx.ev ts).cells qo) none (fun x => fillA ps ts x)) : Option (List AVal)) = some cs := he
    cases hl : Nat.beq (len (qx.ev ts).cells) qn with
    | false => rw [hl] at he'; cases he'
    | true =>
      rw [hl] at he'
      have hl' := Nat.eq_of_beq_eq_true hl
      rw [len_eq] at hl'
      cases ho : overAt? as (qx.ev ts).cells qo with
      | none => rw [ho] at he'; cases he'
      | some as' =>
        rw [ho] at he'
        have hv := (h _ _ hb2).cells
        have hvl := hv.length
        have hcl := hr.length
        obtain ⟨_, hle⟩ := overAt?_some _ _ _ _ ho
        simp only [Array.length_toList] at hvl hcl
        have hset := foldl_set (ρ p.2).cells.toList 0 qo c (by simp; omega)
        have hr' : VRels μ as' (((ρ p.2).cells.zipIdx.foldl (fun cs (x : Value × Nat) => cs.setIfInBounds (qo + x.2) x.1) c)).toList := by
          rw [← Array.foldl_toList, Array.toList_zipIdx, hset]
          simpa using hr.over hv ho
        obtain ⟨c', h1, h2⟩ := ih as' cs _ hr' he'
        refine ⟨c', ?_, h2⟩
        simp only [List.map_cons, Instr.fill, hb1]
        rw [if_neg (by simp; omega)]
        exact h1

theorem good_buildStruct (r : Rel μ σ w) (h : HOpd P μ ts ρ) {t : TypeId} {fs : Array Field} (ht : P.underlying t = some (.struct fs)) {z : List AVal} (hz : zeroCellsOf P t = some z)
    {parts : Array (Nat × Operand)} {ps : List ((Nat × Nat) × Opd)} (hp : compPlaces P fs.toList parts.toList = some ps) (hf : ∀ f ∈ fs, (sizeAt P f.type).isSome) :
    Good μ σ w (oBuild z ps ts σ) ((do pure (Next.value (← Instr.build t (parts.map fun (i, x) => (i, ρ x)))) : Sem Next).run P w) := by
  unfold oBuild
  split
  · rename_i cs hcs
    obtain ⟨i, v, hi, hv, hr, hl, h1⟩ := zeroCellsOf_some hz μ
    have hm : ∀ l : List Field, (∀ f ∈ l, (sizeAt P f.type).isSome) → (l.mapM (fun f => do pure (f.offset, ← sizeOf f.type) : Field → Sem (Nat × Nat))).run P w = .ok (l.map fun f => (f.offset, (sizeAt P f.type).getD 0)) w := by
      intro l hl
      induction l with
      | nil => rfl
      | cons f l ih =>
        have hf' := hl f (by simp)
        obtain ⟨n, hn⟩ := Option.isSome_iff_exists.1 hf'
        simp only [List.mapM_cons, Sem.run_bind, run_sizeOf' hn, Result.andThen_ok, Sem.run_pure, ih (fun f hf => hl f (by simp [hf])), List.map_cons, hn, Option.getD_some]
    have hplaces : (fs.mapM (fun f => do pure (f.offset, ← sizeOf f.type) : Field → Sem (Nat × Nat))).run P w = .ok (fs.map fun f => (f.offset, (sizeAt P f.type).getD 0)) w := by
      rw [Array.mapM_eq_mapM_toList]
      rw [show (Array.map (fun f => (f.offset, (sizeAt P f.type).getD 0)) fs) = (fs.toList.map fun f => (f.offset, (sizeAt P f.type).getD 0)).toArray from by apply Array.ext'; simp]
      simp only [map_eq_pure_bind, Sem.run_bind, hm fs.toList (by simpa using hf), Result.andThen_ok, Sem.run_pure]
    obtain ⟨hpl, hpi⟩ := mapO_some _ _ _ hp
    obtain ⟨c', hc', hrc⟩ := fill_rel (place := fun i => (fs.map fun f => (f.offset, (sizeAt P f.type).getD 0))[i]?) parts.toList ps h ⟨hpl, by
      intro i a ha
      obtain ⟨b, hb, hb'⟩ := hpi i a ha
      refine ⟨b, ?_, hb'⟩
      split at hb
      · rename_i f x hf1 hf2
        cases hs : sizeAt P f.type with
        | none => rw [hs] at hb; cases hb
        | some n =>
          rw [hs] at hb
          cases hb
          refine ⟨?_, hf2⟩
          have hf1' : fs[a.1]? = some f := by simpa using hf1
          simp [hf1', hs]
      · cases hb⟩ z cs v.cells hr hcs
    refine Good.val r (x := .agg c') ?_ (by simp only [VRel]; exact ⟨_, rfl, hrc⟩)
    simp only [Instr.build, Sem.run_bind, run_zeroValue hi hv, Result.andThen_ok, run_underlying ht, hplaces, Array.toList_map]
    rw [hc']
    rfl
  · trivial

theorem rowPlaces {n : Nat} {parts : List (Nat × Operand)} {ps : List ((Nat × Nat) × Opd)} (hp : compRowPlaces P n parts = some ps) :
    (ps.length = parts.length ∧ ∀ (i : Nat) (a : Nat × Operand), parts[i]? = some a → ∃ b, ((fun i => some (i * n, n)) a.1 = some b.1 ∧ compOpd P a.2 = some b.2) ∧ ps[i]? = some b) := by
  obtain ⟨hpl, hpi⟩ := mapO_some _ _ _ hp
  refine ⟨hpl, fun i a ha => ?_⟩
  obtain ⟨b, hb, hb'⟩ := hpi i a ha
  refine ⟨b, ?_, hb'⟩
  cases hx : compOpd P a.2 with
  | none => rw [hx] at hb; cases hb
  | some x =>
    rw [hx] at hb
    cases hb
    exact ⟨rfl, rfl⟩

theorem good_buildArray (r : Rel μ σ w) (h : HOpd P μ ts ρ) {t e : TypeId} {len : Nat} (ht : P.underlying t = some (.array len e)) {z : List AVal} (hz : zeroCellsOf P t = some z) {n : Nat} (hn : sizeAt P e = some n)
    {parts : Array (Nat × Operand)} {ps : List ((Nat × Nat) × Opd)} (hp : compRowPlaces P n parts.toList = some ps) :
    Good μ σ w (oBuild z ps ts σ) ((do pure (Next.value (← Instr.build t (parts.map fun (i, x) => (i, ρ x)))) : Sem Next).run P w) := by
  unfold oBuild
  split
  · rename_i cs hcs
    obtain ⟨i, v, hi, hv, hr, hl, h1⟩ := zeroCellsOf_some hz μ
    obtain ⟨c', hc', hrc⟩ := fill_rel (place := fun i => some (i * n, n)) parts.toList ps h (rowPlaces hp) z cs v.cells hr hcs
    refine Good.val r (x := .agg c') ?_ (by simp only [VRel]; exact ⟨_, rfl, hrc⟩)
    simp only [Instr.build, Sem.run_bind, run_zeroValue hi hv, Result.andThen_ok, run_underlying ht, run_sizeOf' hn, Array.toList_map]
    rw [hc']
    rfl
  · trivial

theorem good_buildSlice (r : Rel μ σ w) (h : HOpd P μ ts ρ) {t e : TypeId} (ht : P.underlying t = some (.slice e)) {z : List AVal} (hz : zeroCellsOf P e = some z) {n len : Nat} (hn : sizeAt P e = some n) (hn0 : n ≠ 0) (hb : ¬ len * n > 16777216)
    {parts : Array (Nat × Operand)} {ps : List ((Nat × Nat) × Opd)} (hp : compRowPlaces P n parts.toList = some ps) :
    Good μ σ w (oBuildSlice z n len ps ts σ) ((do pure (Next.value (← Instr.buildSlice t len (parts.map fun (i, x) => (i, ρ x)))) : Sem Next).run P w) := by
  unfold oBuildSlice
  split
  · rename_i cs hcs
    cases h1 : allOne cs with
    | false => trivial
    | true =>
      obtain ⟨i, v, hi, hv, hr, hl, hone⟩ := zeroCellsOf_some hz μ
      have hin : i.size = n := by unfold sizeAt at hn; rw [hi] at hn; simpa using hn
      have hzr := zeroRow_rel (μ := μ) hr len (len * n) (by rw [hl, hin])
      obtain ⟨c', hc', hrc⟩ := fill_rel (place := fun i => some (i * n, n)) parts.toList ps h (rowPlaces hp) _ cs _ hzr hcs
      have hcl : c'.size = cs.length := by simpa using hrc.length
      obtain ⟨μ', ra, ex, em⟩ := r.newCells e (cs := cs) (c := c') (by rw [List.take_of_length_le (by simp [hcl])]; exact hrc) (by omega) (allOne_eq _ h1)
      refine ⟨μ', _, .slice (some ⟨w.heap.size, 0, none⟩) len len, .inl ?_, ra, ex, ?_⟩
      · have e24 : (2 : Nat) ^ 24 = 16777216 := rfl
        simp only [Instr.buildSlice, Sem.run_bind, run_underlying ht, Result.andThen_ok, run_sizeOf' hn, e24]
        rw [if_neg hb]
        by_cases hz0 : len * n = 0
        · have hl0 : len = 0 := by rcases Nat.mul_eq_zero.1 hz0 with h0 | h0; exact h0; exact absurd h0 hn0
          subst hl0
          have zz : ∀ (f g : Nat → Value), (Array.range (0 * n)).map f = (Array.range (0 * n)).map g := fun _ _ => by rw [Nat.zero_mul]; simp [Array.range]
          rw [zz _ (fun x => (#[] : Array Value)[x % (#[] : Array Value).size]!)] at hc'
          simp only [hz0, if_true, Sem.run_bind, Sem.run_pure, Result.andThen_ok, Array.toList_map]
          rw [hz0] at hc'
          rw [hc']
          simp [newRow]
        · rw [if_neg hz0]
          simp only [Sem.run_bind, run_zeroValue hi hv, Result.andThen_ok, Sem.run_pure, Array.toList_map]
          rw [hc']
          simp [newRow]
      · simp only [VRel]
        refine ⟨_, len, rfl, Nat.le_refl _, Nat.le_refl _, fun _ => rfl, _, em, ?_⟩
        right
        exact ⟨rfl, .inl trivial⟩
  · trivial

end
end Go.Ab
