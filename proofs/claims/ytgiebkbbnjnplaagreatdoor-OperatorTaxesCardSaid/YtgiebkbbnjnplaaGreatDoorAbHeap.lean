/- What loads, stores and new blocks do to a world that an abstract heap stands for. -/
import Derived.Test.YtgiebkbbnjnplaaGreatDoorAbVal
namespace Go.Ab

theorem addr_add (p o n : Nat) : (⟨p, o, none⟩ : Addr).add n = ⟨p, o + n, none⟩ := by
  unfold Addr.add
  split <;> simp_all

theorem slot_of {μ : Mu} {cs : List AVal} {c : Array Value} {o : Nat} (h : VRels μ cs ((c.toList.drop o).take cs.length)) {i : Nat} {a : AVal} (ha : cs[i]? = some a) :
    ∃ v, c[o + i]? = some v ∧ VRel μ a v := by
  obtain ⟨v, hv, hr⟩ := h.get i a ha
  refine ⟨v, ?_, hr⟩
  have hlt : i < cs.length := (List.getElem?_eq_some_iff.1 ha).1
  rw [List.getElem?_take, if_pos hlt, List.getElem?_drop] at hv
  simpa using hv

section
variable {μ : Mu} {σ : Heap} {w : World}

theorem Rel.load1 (r : Rel μ σ w) {b o : Nat} {a : AVal} (h : σ.load1 b o = some a) {m : Pl} (hm : μ b = some m) :
    ∃ v, w.cell? ⟨m.p, m.o + o, none⟩ = some v ∧ VRel μ a v ∧ a.oneCell = true := by
  unfold Heap.load1 at h
  split at h
  · rename_i cs hb
    rw [nth?_eq] at h
    obtain ⟨m', hm', ho⟩ := r.objs b _ hb
    rw [hm] at hm'
    cases hm'
    obtain ⟨c, e, lo, hi, h1, _, _, h4, h5, _⟩ := ho
    obtain ⟨v, hv, hr⟩ := slot_of h4 h
    exact ⟨v, by simp [World.cell?, h1, hv], hr, h5 a (List.mem_of_getElem? h)⟩
  · cases h

theorem Rel.loadN (r : Rel μ σ w) {b o n : Nat} {as : List AVal} (h : σ.loadN b o n = some as) {m : Pl} (hm : μ b = some m) :
    ∃ vs : List Value, vs.length = as.length ∧ (as.length = n) ∧ (∀ j v, vs[j]? = some v → w.cell? ((⟨m.p, m.o + o, none⟩ : Addr).add j) = some v) ∧ VRels μ as vs ∧ (∀ a ∈ as, a.oneCell = true) := by
  unfold Heap.loadN at h
  split at h
  · rename_i cs hb
    obtain ⟨e0, hl⟩ := subN?_some h
    obtain ⟨m', hm', ho⟩ := r.objs b _ hb
    rw [hm] at hm'
    cases hm'
    obtain ⟨c, e, lo, hi, h1, h2, h3, h4, h5, _⟩ := ho
    have hlen : as.length = n := by
      rw [e0, List.length_take, List.length_drop]
      rcases hl with rfl | hl
      · simp
      · omega
    refine ⟨((((c.toList.drop m.o).take cs.length).drop o).take n), ?_, hlen, ?_, ?_, ?_⟩
    · have := h4.length
      rw [hlen, List.length_take, List.length_drop, this]
      rcases hl with rfl | hl
      · simp
      · omega
    · intro j v hv
      rw [addr_add]
      rw [List.getElem?_take] at hv
      split at hv
      · rw [List.getElem?_drop, List.getElem?_take] at hv
        split at hv
        · rw [List.getElem?_drop] at hv
          have hv' : c[m.o + (o + j)]? = some v := by simpa using hv
          simp only [World.cell?, h1, Option.isSome_none]
          rw [Nat.add_assoc]
          simpa using hv'
        · cases hv
      · cases hv
    · rw [e0]
      exact (h4.drop o).take n
    · intro a ha
      rw [e0] at ha
      exact h5 a (List.mem_of_mem_drop (List.mem_of_mem_take ha))
  · cases h

end

/-! A block's cells laid anew. -/

theorem setRow_size (w : World) (g : Nat) (c : Array Value) : (w.setRow g c).heap.size = w.heap.size := by
  simp [World.setRow]

theorem setRow_other (w : World) (g q : Nat) (c : Array Value) (h : q ≠ g) : (w.setRow g c).heap[q]? = w.heap[q]? := by
  simp only [World.setRow]
  rw [Array.getElem?_modify, if_neg (fun e => h e.symm)]

theorem KindKept.setRow {w : World} {g : Nat} {c c' : Array Value} {e : TypeId} {fr : Nat × Nat} (hg : w.heap[g]? = some (.cells c e fr)) (hs : c'.size = c.size) : KindKept w (w.setRow g c') := by
  intro q d e' fr' hq
  by_cases h : q = g
  · subst h
    rw [hg] at hq
    cases hq
    exact ⟨c', setRow_heap w q c _ e _ hg, hs⟩
  · exact ⟨d, by rw [setRow_other _ _ _ _ h]; exact hq, rfl⟩

/-- The cells of a range of a block, stored. -/
theorem run_store_range (P : Program) (g o : Nat) (e : TypeId) (lo hi : Nat) : ∀ (vs : List Value) (i : Nat) (cur : Array Value) (w : World), w.heap[g]? = some (.cells cur e (lo, hi)) →
    (hi ≤ lo ∨ cur.size ≤ lo) → o + i + vs.length ≤ cur.size → (∀ v ∈ vs, v.oneCell' = true) →
    (storeCells ⟨g, o, none⟩ vs i).run P w = .ok () (w.setRow g (cur.toList.take (o + i) ++ vs ++ cur.toList.drop (o + i + vs.length)).toArray)
  | [], i, cur, w, hg, _, _, _ => by
    simp only [storeCells, List.append_nil, List.length_nil, Nat.add_zero, List.take_append_drop, Array.toArray_toList]
    rw [setRow_self w g cur e _ hg]
    rfl
  | v :: rest, i, cur, w, hg, hfz, hl, h1 => by
    have hi' : o + i < cur.size := by simp at hl; omega
    have hcell : w.cell? ⟨g, o + i, none⟩ = some cur[o + i] := by simp [World.cell?, hg, hi']
    have hfro : w.frozen? ⟨g, o + i, none⟩ = false := by
      simp only [World.frozen?, hg, Bool.and_eq_false_iff, decide_eq_false_iff_not]
      omega
    have hst : (store ((⟨g, o, none⟩ : Addr).add i) v).run P w = .ok () (w.setRow g (cur.setIfInBounds (o + i) v)) := by
      rw [addr_add, run_store P w _ v _ (h1 v (by simp)), hcell]
      simp [hfro, setCell_eq_setRow w g (o + i) cur e _ v hg]
    have ih := run_store_range P g o e lo hi rest (i + 1) (cur.setIfInBounds (o + i) v) (w.setRow g (cur.setIfInBounds (o + i) v)) (setRow_heap w g cur _ e _ hg)
      (by simpa using hfz) (by simp at hl ⊢; omega) (fun x hx => h1 x (by simp [hx]))
    simp only [storeCells, Sem.run_bind, hst, Result.andThen_ok, ih, setRow_setRow]
    congr 3
    have e' := list_seg_step cur.toList (o + i) v rest (by simp at hl ⊢; omega)
    simpa [Array.toList_setIfInBounds, Nat.add_assoc] using e'

section
variable {μ : Mu} {σ : Heap} {w : World}

/-- A store into a logical block. -/
theorem Rel.storeN (P : Program) (r : Rel μ σ w) {b o : Nat} {as : List AVal} {σ' : Heap} (h : σ.storeN b o as = some σ') {m : Pl} (hm : μ b = some m) {vs : List Value} (hv : VRels μ as vs) :
    ∃ w', (storeCells ⟨m.p, m.o + o, none⟩ vs).run P w = .ok () w' ∧ Rel μ σ' w' ∧ Ext μ σ w μ σ' w' := by
  unfold Heap.storeN at h
  cases h1 : allOne as with
  | false => rw [h1] at h; cases h
  | true =>
    rw [h1] at h
    simp only at h
    split at h
    · rename_i cs hb
      split at h
      · rename_i cs' hcs
        cases h
        obtain ⟨e0, hl⟩ := overAt?_some _ _ _ _ hcs
        obtain ⟨m', hm', ho⟩ := r.objs b _ hb
        rw [hm] at hm'
        cases hm'
        obtain ⟨c, e, lo, hi, g1, g2, g3, g4, g5, g6⟩ := ho
        have hvl := hv.length
        have hone : ∀ v ∈ vs, v.oneCell' = true := by
          intro v hx
          obtain ⟨i, hi', rfl⟩ := List.mem_iff_getElem.1 hx
          obtain ⟨a, ha⟩ : ∃ a, as[i]? = some a := ⟨as[i]'(by omega), List.getElem?_eq_getElem (by omega)⟩
          obtain ⟨v, hv', hr⟩ := hv.get i a ha
          rw [List.getElem?_eq_getElem hi'] at hv'
          cases hv'
          exact hr.oneCell (allOne_eq as h1 a (List.mem_of_getElem? ha))
        have hrun := run_store_range P m.p (m.o + o) e lo hi vs 0 c w g1 g6 (by omega) hone
        refine ⟨_, hrun, ?_, ?_⟩
        · refine ⟨r.fresh, ?_, ?_⟩
          · intro b' o' hb'
            rw [Heap.get_put] at hb'
            by_cases hbb : b' = b
            · rw [if_pos hbb] at hb'
              cases hb'
              subst hbb
              refine ⟨m, hm, ?_⟩
              refine ⟨_, e, lo, hi, setRow_heap w m.p c _ e _ g1, ?_, ?_, ?_, ?_, ?_⟩
              · simp
                omega
              · rw [e0]
                simp
                omega
              · rw [e0]
                refine VRels.of ?_ ?_
                · simp
                  omega
                · intro i a ha
                  have hlen : (cs.take o ++ as ++ cs.drop (o + as.length)).length = cs.length := by simp; omega
                  have hi' : i < cs.length := by have := (List.getElem?_eq_some_iff.1 ha).1; omega
                  have hidx : ∀ v, ((c.toList.take (m.o + o + 0) ++ vs ++ c.toList.drop (m.o + o + 0 + vs.length)))[m.o + i]? = some v →
                      (((c.toList.take (m.o + o + 0) ++ vs ++ c.toList.drop (m.o + o + 0 + vs.length)).toArray.toList.drop m.o).take (cs.take o ++ as ++ cs.drop (o + as.length)).length)[i]? = some v := by
                    intro v hx
                    rw [List.getElem?_take, if_pos (by omega), List.getElem?_drop]
                    simpa using hx
                  by_cases h1' : i < o
                  · have ha' : cs[i]? = some a := by
                      rw [List.append_assoc, List.getElem?_append_left (by simp; omega), List.getElem?_take, if_pos h1'] at ha
                      exact ha
                    obtain ⟨v, hv1, hv2⟩ := slot_of g4 ha'
                    refine ⟨v, hidx v ?_, hv2⟩
                    rw [List.append_assoc, List.getElem?_append_left (by simp; omega), List.getElem?_take, if_pos (by omega)]
                    simpa using hv1
                  · by_cases h2' : i < o + as.length
                    · have ha' : as[i - o]? = some a := by
                        rw [List.append_assoc, List.getElem?_append_right (by simp; omega), List.getElem?_append_left (by simp; omega)] at ha
                        simpa [Nat.min_eq_left (show o ≤ cs.length by omega)] using ha
                      obtain ⟨v, hv1, hv2⟩ := hv.get _ a ha'
                      refine ⟨v, hidx v ?_, hv2⟩
                      rw [List.append_assoc, List.getElem?_append_right (by simp; omega), List.getElem?_append_left (by simp; omega)]
                      have : m.o + i - (List.take (m.o + o + 0) c.toList).length = i - o := by simp; omega
                      rw [this]
                      exact hv1
                    · have ha' : cs[i]? = some a := by
                        rw [List.getElem?_append_right (by simp; omega), List.getElem?_drop] at ha
                        have : o + as.length + (i - (List.take o cs ++ as).length) = i := by simp; omega
                        rw [this] at ha
                        exact ha
                      obtain ⟨v, hv1, hv2⟩ := slot_of g4 ha'
                      refine ⟨v, hidx v ?_, hv2⟩
                      rw [List.getElem?_append_right (by simp; omega), List.getElem?_drop]
                      have : m.o + o + 0 + vs.length + (m.o + i - (List.take (m.o + o + 0) c.toList ++ vs).length) = m.o + i := by simp; omega
                      rw [this]
                      simpa using hv1
              · intro a ha
                rw [e0] at ha
                simp only [List.mem_append] at ha
                rcases ha with (ha | ha) | ha
                · exact g5 a (List.mem_of_mem_take ha)
                · exact allOne_eq as h1 a ha
                · exact g5 a (List.mem_of_mem_drop ha)
              · rcases g6 with g6 | g6
                · exact .inl g6
                · right
                  simp
                  omega
            · rw [if_neg hbb] at hb'
              obtain ⟨m', hm', ho'⟩ := r.objs b' o' hb'
              refine ⟨m', hm', ho'.world (setRow_other _ _ _ _ ?_)⟩
              intro e
              exact hbb (r.inj b' b _ _ _ _ hb' hb hm' hm e)
          · intro b1 b2 o1 o2 m1 m2 h1' h2' e1 e2 e3
            rw [Heap.get_put] at h1' h2'
            have k1 : ∃ o, σ.get b1 = some o := by
              by_cases hh : b1 = b
              · exact ⟨_, hh ▸ hb⟩
              · rw [if_neg hh] at h1'; exact ⟨_, h1'⟩
            have k2 : ∃ o, σ.get b2 = some o := by
              by_cases hh : b2 = b
              · exact ⟨_, hh ▸ hb⟩
              · rw [if_neg hh] at h2'; exact ⟨_, h2'⟩
            obtain ⟨_, k1⟩ := k1
            obtain ⟨_, k2⟩ := k2
            exact r.inj b1 b2 _ _ m1 m2 k1 k2 e1 e2 e3
        · refine ⟨.refl μ, by rw [setRow_size]; exact Nat.le_refl _, Nat.le_refl _, ?_, ?_, rfl, rfl, rfl, fun _ _ => rfl, .setRow g1 (by simp; omega)⟩
          · intro b' o' m' hb' hm'
            right
            rw [Heap.get_put] at hb'
            by_cases hbb : b' = b
            · subst hbb
              exact ⟨b', _, m', hb, hm', rfl⟩
            · rw [if_neg hbb] at hb'
              exact ⟨b', o', m', hb', hm', rfl⟩
          · intro q _ hn
            exact setRow_other _ _ _ _ (fun e => hn b _ m hb hm e.symm)
      · cases h
    · cases h

/-- A logical block's place: the map with one more. -/
def Mu.put (μ : Mu) (b : Nat) (m : Pl) : Mu := fun i => if i = b then some m else μ i

theorem Mu.put_le {μ : Mu} {b : Nat} (m : Pl) (h : μ b = none) : μ.le (μ.put b m) := by
  intro i x hx
  unfold Mu.put
  rw [if_neg]
  · exact hx
  · intro e
    subst e
    rw [h] at hx
    cases hx

/-- A new block. -/
theorem Rel.new (r : Rel μ σ w) (o : AObj) (x : Obj) (m : Pl) (hp : m.p = w.heap.size)
    (ho : ORel (μ.put σ.next m) { w with heap := w.heap.push x } m o) :
    Rel (μ.put σ.next m) (σ.new o) { w with heap := w.heap.push x } ∧ Ext μ σ w (μ.put σ.next m) (σ.new o) { w with heap := w.heap.push x } := by
  have hle : μ.le (μ.put σ.next m) := Mu.put_le m (r.fresh _ (Nat.le_refl _))
  have hold : ∀ b o m', σ.get b = some o → μ b = some m' → b ≠ σ.next := by
    intro b o m' _ hm e
    rw [e, r.fresh _ (Nat.le_refl _)] at hm
    cases hm
  have hkeep : ∀ q, q < w.heap.size → ({ w with heap := w.heap.push x } : World).heap[q]? = w.heap[q]? := by
    intro q hq
    simp only [Array.getElem?_push]
    rw [if_neg (by omega)]
  refine ⟨⟨?_, ?_, ?_⟩, ⟨hle, ?_, ?_, ?_, ?_, rfl, rfl, rfl, fun b hb => if_neg (Nat.ne_of_lt hb), .of_keep hkeep⟩⟩
  · intro b hb
    have hb' : σ.next + 1 ≤ b := hb
    unfold Mu.put
    rw [if_neg (by omega)]
    exact r.fresh b (by omega)
  · intro b o' hb
    rw [Heap.get_new] at hb
    by_cases e : b = σ.next
    · rw [if_pos e] at hb
      cases hb
      subst e
      exact ⟨m, by simp [Mu.put], ho⟩
    · rw [if_neg e] at hb
      obtain ⟨m', hm', ho'⟩ := r.objs b o' hb
      exact ⟨m', hle b m' hm', (ho'.mono hle).world (hkeep _ ho'.lt)⟩
  · intro b1 b2 o1 o2 m1 m2 h1 h2 e1 e2 e3
    rw [Heap.get_new] at h1 h2
    have key : ∀ b o m', b ≠ σ.next → σ.get b = some o → (μ.put σ.next m) b = some m' → m'.p < w.heap.size ∧ μ b = some m' := by
      intro b o m' hne hg hm'
      unfold Mu.put at hm'
      rw [if_neg hne] at hm'
      obtain ⟨m'', e'', ho''⟩ := r.objs b o hg
      rw [hm'] at e''
      cases e''
      exact ⟨ho''.lt, hm'⟩
    have self : ∀ m', (μ.put σ.next m) σ.next = some m' → m' = m := by
      intro m' h
      simp [Mu.put] at h
      exact h.symm
    by_cases c1 : b1 = σ.next <;> by_cases c2 : b2 = σ.next
    · rw [c1, c2]
    · rw [if_neg c2] at h2
      obtain ⟨hlt, _⟩ := key b2 o2 m2 c2 h2 e2
      rw [c1] at e1
      rw [self m1 e1] at e3
      omega
    · rw [if_neg c1] at h1
      obtain ⟨hlt, _⟩ := key b1 o1 m1 c1 h1 e1
      rw [c2] at e2
      rw [self m2 e2] at e3
      omega
    · rw [if_neg c1] at h1
      rw [if_neg c2] at h2
      obtain ⟨_, f1⟩ := key b1 o1 m1 c1 h1 e1
      obtain ⟨_, f2⟩ := key b2 o2 m2 c2 h2 e2
      exact r.inj b1 b2 o1 o2 m1 m2 h1 h2 f1 f2 e3
  · simp
  · exact Nat.le_succ _
  · intro b o' m' hb hm'
    rw [Heap.get_new] at hb
    by_cases e : b = σ.next
    · subst e
      left
      simp [Mu.put] at hm'
      subst hm'
      omega
    · rw [if_neg e] at hb
      unfold Mu.put at hm'
      rw [if_neg e] at hm'
      exact .inr ⟨b, o', m', hb, hm', rfl⟩
  · intro q hq _
    exact hkeep q hq

/-- A block forgotten. -/
theorem Rel.kill (r : Rel μ σ w) (b : Nat) : Rel μ (σ.kill b) w ∧ Ext μ σ w μ (σ.kill b) w := by
  have hg : ∀ i o, (σ.kill b).get i = some o → σ.get i = some o := by
    intro i o h
    rw [Heap.get_kill] at h
    split at h
    · cases h
    · exact h
  refine ⟨⟨r.fresh, fun i o h => r.objs i o (hg i o h), fun b1 b2 o1 o2 m1 m2 h1 h2 => r.inj b1 b2 o1 o2 m1 m2 (hg _ _ h1) (hg _ _ h2)⟩, ⟨.refl μ, Nat.le_refl _, Nat.le_refl _, ?_, fun _ _ _ => rfl, rfl, rfl, rfl, fun _ _ => rfl, .refl w⟩⟩
  intro i o m h hm
  exact .inr ⟨i, o, m, hg i o h, hm, rfl⟩

/-- An object's content laid anew. -/
theorem Rel.putObj (r : Rel μ σ w) {b : Nat} {o0 o : AObj} {m : Pl} (hb : σ.get b = some o0) (hnc : ∀ cs, o0 ≠ .cells cs) (hm : μ b = some m) (x : Obj)
    (ho : ORel μ { w with heap := w.heap.setIfInBounds m.p x } m o) :
    Rel μ (σ.put b o) { w with heap := w.heap.setIfInBounds m.p x } ∧ Ext μ σ w μ (σ.put b o) { w with heap := w.heap.setIfInBounds m.p x } := by
  have hoth : ∀ q, q ≠ m.p → ({ w with heap := w.heap.setIfInBounds m.p x } : World).heap[q]? = w.heap[q]? := by
    intro q hq
    simp only [Array.getElem?_setIfInBounds]
    rw [if_neg (fun e => hq e.symm)]
  have hkind : KindKept w { w with heap := w.heap.setIfInBounds m.p x } := by
    intro q c e fr hq
    by_cases h : q = m.p
    · exfalso
      obtain ⟨m', hm', ho'⟩ := r.objs b o0 hb
      rw [hm] at hm'
      cases hm'
      subst h
      cases o0 with
      | cells cs => exact hnc cs rfl
      | map es =>
        obtain ⟨_, es', clk, h1, _⟩ := ho'
        rw [hq] at h1
        cases h1
      | iter s pos =>
        have h1 := ho'.2
        rw [hq] at h1
        cases h1
    · exact ⟨c, by rw [hoth q h]; exact hq, rfl⟩
  have hget : ∀ i o', (σ.put b o).get i = some o' → ∃ o'', σ.get i = some o'' := by
    intro i o' h
    rw [Heap.get_put] at h
    split at h
    · rename_i e; exact ⟨o0, e ▸ hb⟩
    · exact ⟨o', h⟩
  refine ⟨⟨r.fresh, ?_, ?_⟩, ⟨.refl μ, by simp, Nat.le_refl _, ?_, ?_, rfl, rfl, rfl, fun _ _ => rfl, hkind⟩⟩
  · intro i o' h
    have h' := h
    rw [Heap.get_put] at h'
    by_cases e : i = b
    · rw [if_pos e] at h'
      cases h'
      subst e
      exact ⟨m, hm, ho⟩
    · rw [if_neg e] at h'
      obtain ⟨m', hm', ho'⟩ := r.objs i o' h'
      exact ⟨m', hm', ho'.world (hoth _ fun e' => e (r.inj i b _ _ _ _ h' hb hm' hm e'))⟩
  · intro b1 b2 o1 o2 m1 m2 h1 h2 e1 e2 e3
    obtain ⟨_, g1⟩ := hget _ _ h1
    obtain ⟨_, g2⟩ := hget _ _ h2
    exact r.inj b1 b2 _ _ m1 m2 g1 g2 e1 e2 e3
  · intro i o' m' h hm'
    obtain ⟨_, g⟩ := hget _ _ h
    exact .inr ⟨i, _, m', g, hm', rfl⟩
  · intro q _ hn
    exact hoth q (fun e => hn b o0 m hb hm e.symm)

end
end Go.Ab
