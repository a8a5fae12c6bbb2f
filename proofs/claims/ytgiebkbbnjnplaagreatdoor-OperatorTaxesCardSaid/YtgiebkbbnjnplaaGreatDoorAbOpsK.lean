/- Operations, one by one. Part K: append and copy, abstractly. -/
import Derived.Test.YtgiebkbbnjnplaaGreatDoorAbOpsJ
namespace Go.Ab
section
variable {P : Program} {μ : Mu} {σ : Heap} {w : World} {ts : Tmps} {ρ : Operand → Value}

/-- A logical block laid anew, in the place of an old one, a little further on. -/
theorem Rel.moved (r : Rel μ σ w) {b o : Nat} {cs : List AVal} {pl : Pl} (hb : σ.get b = some (.cells cs)) (hm : μ b = some pl) {c : Array Value} {e : TypeId} {lo hi : Nat}
    (hc : w.heap[pl.p]? = some (.cells c e (lo, hi))) (hfz : hi ≤ lo ∨ c.size ≤ lo) (hsz : c.size = pl.o + pl.room) {cs' : List AVal} {c' : Array Value} (hc' : c'.size = c.size) (ho : o + cs'.length ≤ pl.room)
    (hr : VRels μ cs' ((c'.toList.drop (pl.o + o)).take cs'.length)) (h1 : ∀ a ∈ cs', a.oneCell = true) :
    ∃ μ', Rel μ' ((σ.kill b).new (.cells cs')) (w.setRow pl.p c') ∧ Ext μ σ w μ' ((σ.kill b).new (.cells cs')) (w.setRow pl.p c') ∧ μ' σ.next = some ⟨pl.p, pl.o + o, pl.room - o⟩ := by
  have hfr : μ σ.next = none := r.fresh _ (Nat.le_refl _)
  have hle : μ.le (μ.put σ.next ⟨pl.p, pl.o + o, pl.room - o⟩) := Mu.put_le _ hfr
  have hget : ∀ i ob, ((σ.kill b).new (.cells cs')).get i = some ob → (i = σ.next ∧ ob = .cells cs') ∨ (i ≠ σ.next ∧ i ≠ b ∧ σ.get i = some ob) := by
    intro i ob h
    rw [Heap.get_new] at h
    by_cases hi' : i = σ.next
    · left
      rw [if_pos (by exact hi')] at h
      cases h
      exact ⟨hi', rfl⟩
    · right
      rw [if_neg (by exact hi'), Heap.get_kill] at h
      by_cases hib : i = b
      · rw [if_pos hib] at h; cases h
      · rw [if_neg hib] at h; exact ⟨hi', hib, h⟩
  have hput : ∀ i m, i ≠ σ.next → (μ.put σ.next ⟨pl.p, pl.o + o, pl.room - o⟩) i = some m → μ i = some m := by
    intro i m hi' h
    unfold Mu.put at h
    rwa [if_neg hi'] at h
  refine ⟨_, ⟨?_, ?_, ?_⟩, ⟨hle, by rw [setRow_size]; exact Nat.le_refl _, Nat.le_succ _, ?_, ?_, rfl, rfl, rfl, fun b hb => if_neg (Nat.ne_of_lt hb), .setRow hc hc'⟩, by simp [Mu.put]⟩
  · intro i hi'
    have : σ.next + 1 ≤ i := hi'
    unfold Mu.put
    rw [if_neg (by omega)]
    exact r.fresh i (by omega)
  · intro i ob h
    rcases hget i ob h with ⟨rfl, rfl⟩ | ⟨h1', h2, h3⟩
    · refine ⟨⟨pl.p, pl.o + o, pl.room - o⟩, by simp [Mu.put], ?_⟩
      refine ⟨c', e, lo, hi, setRow_heap w pl.p c _ e _ hc, ?_, ?_, hr.mono hle, h1, ?_⟩
      · show c'.size = pl.o + o + (pl.room - o)
        omega
      · show cs'.length ≤ pl.room - o
        omega
      · rw [hc']; exact hfz
    · obtain ⟨m, hm', ho'⟩ := r.objs i ob h3
      refine ⟨m, hle _ _ hm', (ho'.mono hle).world (setRow_other _ _ _ _ ?_)⟩
      intro e'
      exact h2 (r.inj i b _ _ _ _ h3 hb hm' hm e')
  · intro b1 b2 o1 o2 m1 m2 g1 g2 e1 e2 e3
    rcases hget b1 o1 g1 with ⟨k1, _⟩ | ⟨k1, k2, k3⟩ <;> rcases hget b2 o2 g2 with ⟨l1, _⟩ | ⟨l1, l2, l3⟩
    · rw [k1, l1]
    · rw [k1] at e1
      simp [Mu.put] at e1
      subst e1
      exact absurd (r.inj b2 b _ _ _ _ l3 hb (hput _ _ l1 e2) hm e3.symm) l2
    · rw [l1] at e2
      simp [Mu.put] at e2
      subst e2
      exact absurd (r.inj b1 b _ _ _ _ k3 hb (hput _ _ k1 e1) hm e3) k2
    · exact r.inj b1 b2 _ _ _ _ k3 l3 (hput _ _ k1 e1) (hput _ _ l1 e2) e3
  · intro i ob m h hm'
    right
    rcases hget i ob h with ⟨rfl, _⟩ | ⟨k1, k2, k3⟩
    · simp [Mu.put] at hm'
      subst hm'
      exact ⟨b, _, pl, hb, hm, rfl⟩
    · exact ⟨i, ob, m, k3, hput _ _ k1 hm', rfl⟩
  · intro q _ hn
    exact setRow_other _ _ _ _ (fun e' => hn b _ pl hb hm e'.symm)

theorem good_append (r : Rel μ σ w) (h : HOpd P μ ts ρ) {argTypes : Array TypeId} {ty e : TypeId} (hT : AppTypes P argTypes e) {i : TypeInfo} (hi : P.info? e = some i) {z : List AVal} (hz : zeroCellsOf P e = some z)
    {s x : Operand} {s' x' : Opd} (hs : compOpd P s = some s') (hx : compOpd P x = some x') :
    Good μ σ w (oAppend i.size i.bytes s' x' ts σ) ((do pure (Next.value (← Builtin.append_ argTypes ty #[ρ s, ρ x])) : Sem Next).run P w) := by
  have hrs := h _ _ hs
  have hrx := h _ _ hx
  obtain ⟨i', zv, hi', hzv, hzr, hzl, hz1⟩ := zeroCellsOf_some hz μ
  rw [hi] at hi'
  cases hi'
  have hzs : zv.cells.size = i.size := by have := hzr.length; simp at this; omega
  unfold oAppend
  cases hln : lenA (x'.ev ts) with
  | none => trivial
  | some n =>
  dsimp only
  cases hxs : elemsOf i.size σ n (x'.ev ts) with
  | none => trivial
  | some xs =>
  have hlen : ∀ w' : World, (Builtin.lenOf (ρ x)).run P w' = .ok n w' := fun w' => run_lenOf hrx hln
  obtain ⟨vs, hvs, hxl, hfc⟩ := elems_rel (P := P) r hrx hln (Nat.le_refl n) hxs
  have hvl := hvs.length
  dsimp only
  unfold appendA
  cases hsv : s'.ev ts with
  | slice a ln cap ex esz' =>
    rw [hsv] at hrs
    dsimp only
    have fin : ∀ {v : AVal} {σ' : Heap} {μ' : Mu} {w' : World} {u : Value}, (Builtin.append_ argTypes ty #[ρ s, ρ x]).run P w = .ok u w' → Rel μ' σ' w' → Ext μ σ w μ' σ' w' → VRel μ' v u →
        Good μ σ w (.val v σ') ((do pure (Next.value (← Builtin.append_ argTypes ty #[ρ s, ρ x])) : Sem Next).run P w) := by
      intro v σ' μ' w' u h1 h2 h3 h4
      exact ⟨μ', w', u, .inl (by rw [Sem.run_bind, h1]; rfl), h2, h3, h4⟩
    cases hfit : Nat.ble (Nat.add ln n) cap with
    | true =>
      have hle : ln + n ≤ cap := Nat.le_of_ble_eq_true hfit
      cases a with
      | none =>
        simp only [VRel] at hrs
        obtain ⟨k1, k2, hv⟩ := hrs
        cases hnx : isNil xs with
        | false => trivial
        | true =>
          have := isNil_eq hnx
          subst this
          have hv0 : vs = [] := List.length_eq_zero_iff.1 (by simpa using hvl)
          subst hv0
          have hrun := run_append_fits (ty := ty) hT hi (base := none) (sLen := 0) (sCap := 0) (hlen w) (hfc w rfl) (by omega) (w' := w) rfl
          rw [← hv] at hrun
          refine fin hrun r (.refl _ _ _) ?_
          simp only [VRel]
          exact ⟨by show ln + n = 0; omega, k2, by rw [show 0 + n = 0 from by omega]⟩
      | some q =>
        obtain ⟨b, o⟩ := q
        simp only [VRel] at hrs
        obtain ⟨q, cap', hv, k1, k2, k3, pl, hpl, k4⟩ := hrs
        simp only
        cases hez : Nat.beq esz' i.size with
        | false => trivial
        | true =>
        have := Nat.eq_of_beq_eq_true hez
        subst this
        have newv : ∀ w' : World, VRel μ (.slice (some (b, o)) (Nat.add ln n) cap ex i.size) (.slice (some q) (ln + n) cap') := by
          intro _
          simp only [VRel]
          exact ⟨q, cap', rfl, hle, k2, k3, pl, hpl, k4⟩
        cases hnx : isNil xs with
        | true =>
          have := isNil_eq hnx
          subst this
          have hv0 : vs = [] := List.length_eq_zero_iff.1 (by simpa using hvl)
          subst hv0
          have hrun := run_append_fits (ty := ty) hT hi (base := some q) (sLen := ln) (sCap := cap') (hlen w) (hfc w rfl) (by omega) (w' := w) rfl
          rw [← hv] at hrun
          exact fin hrun r (.refl _ _ _) (newv w)
        | false =>
          simp only
          cases hst : σ.storeN b (Nat.add o (Nat.mul ln i.size)) xs with
          | none => trivial
          | some σ' =>
            obtain ⟨w', hrun', hrel, hext⟩ := r.storeN P hst hpl hvs
            have hq : q = ⟨pl.p, pl.o + o, none⟩ := by
              rcases k4 with k4 | ⟨k4, _⟩
              · exfalso
                have hn0 : n = 0 := by omega
                subst hn0
                have : xs = [] := List.length_eq_zero_iff.1 (by rw [hxl, Nat.zero_mul])
                subst this
                cases hnx
              · exact k4
            subst hq
            have hrun := run_append_fits (ty := ty) hT hi (base := some ⟨pl.p, pl.o + o, none⟩) (sLen := ln) (sCap := cap') (hlen w) (hfc w rfl) (by omega) (w' := w') (by
              simp only [addr_add]
              have e' : pl.o + o + ln * i.size = pl.o + (Nat.add o (Nat.mul ln i.size)) := by
                show pl.o + o + ln * i.size = pl.o + (o + ln * i.size)
                omega
              rw [e']
              exact hrun')
            rw [← hv] at hrun
            exact fin hrun hrel hext (newv w)
    | false =>
      have hgt : cap < ln + n := by
        have := (not_congr (ble_iff (a := ln + n) (b := cap))).1 (by rw [show Nat.ble (ln + n) cap = false from hfit]; simp)
        omega
      simp only
      cases hcond : (Nat.ble (Nat.mul (Nat.add ln n) i.bytes) 1099511627776 && Nat.ble (Nat.add ln n) 1099511627776 && Nat.ble 1 i.bytes && allOne xs) with
      | false => trivial
      | true =>
        simp only [Bool.and_eq_true, ble_iff] at hcond
        obtain ⟨⟨⟨c1, c2⟩, c3⟩, c4⟩ := hcond
        have c1' : (ln + n) * i.bytes ≤ 1099511627776 := c1
        have hones := allOne_eq xs c4
        -- a new row
        have grows : ∀ {base : Option Addr} {cap' : Nat} {σ1 : Heap} {old : List AVal} {olds : List Value} (hv : ρ s = .slice base ln cap') (hg : cap' < ln + n) (hr1 : Rel μ σ1 w) (he1 : Ext μ σ w μ σ1 w) (hnx1 : σ1.next = σ.next)
            (hold : VRels μ old olds) (hol : old.length = ln * i.size) (hoo : ∀ a ∈ old, a.oneCell = true) (hfo : (Builtin.firstCells i.size ln (.slice base ln cap')).run P w.drew = .ok olds.toArray w.drew),
            Good μ σ w (.val (.slice (some (σ.next, 0)) (Nat.add ln n) (Nat.add ln n) false i.size) (σ1.new (.cells (old ++ xs)))) ((do pure (Next.value (← Builtin.append_ argTypes ty #[ρ s, ρ x])) : Sem Next).run P w) := by
          intro base cap' σ1 old olds hv hg hr1 he1 hnx1 hold hol hoo hfo
          have hrun := run_append_grows (ty := ty) hT hi hzv c3 (hlen w) hfo (hfc w.drew rfl) hg c1'
          rw [← hv] at hrun
          have hge := grownCap_ge w (ln + n) cap' e
          have hr2 : Rel μ σ1 w.drew := hr1.heapEq rfl
          have he2 : Ext μ σ w μ σ1 w.drew := he1.trans (Ext.drawn μ σ1 w _)
          have hol' := hold.length
          have hlen2 : (old ++ xs).length = olds.length + vs.length := by simp [hol', hvl]
          obtain ⟨μ', ra, ea, em⟩ := hr2.newCells e (cs := old ++ xs) (c := (olds ++ vs).toArray ++ Builtin.zeroCells zv.cells (grownCap w (ln + n) cap' e - (ln + n))) (by
            rw [Array.toList_append, List.take_append_of_le_length (by simp [hol', hvl]), List.take_of_length_le (by simp [hol', hvl])]
            exact hold.append hvs) (by simp [hol', hvl]) (by
            intro a ha
            rcases List.mem_append.1 ha with ha | ha
            · exact hoo a ha
            · exact hones a ha)
          refine fin hrun ra (he2.trans ea) ?_
          simp only [VRel]
          refine ⟨_, grownCap w (ln + n) cap' e, rfl, Nat.le_refl _, hge, (fun h => by cases h), _, by rw [← hnx1]; exact em, ?_⟩
          right
          refine ⟨rfl, .inr ?_⟩
          have hsz : ((olds ++ vs).toArray ++ Builtin.zeroCells zv.cells (grownCap w (ln + n) cap' e - (ln + n))).size = grownCap w (ln + n) cap' e * i.size := by
            simp only [Array.size_append, List.size_toArray, size_zeroCells, hzs, List.length_append, hol', hvl, hol, hxl, ← Nat.add_mul]
            congr 1
            omega
          simp only [hsz]
          omega
        cases a with
        | none =>
          simp only [VRel] at hrs
          obtain ⟨k1, k2, hv⟩ := hrs
          subst k1 k2
          exact grows (σ1 := σ) (old := []) (olds := []) hv (by omega) r (.refl _ _ _) rfl .nil (by simp) (by simp) rfl
        | some q =>
          obtain ⟨b, o⟩ := q
          simp only [VRel] at hrs
          obtain ⟨q, cap', hv, k1, k2, k3, pl, hpl, k4⟩ := hrs
          simp only
          cases hez : Nat.beq esz' i.size with
          | false => trivial
          | true =>
          have := Nat.eq_of_beq_eq_true hez
          subst this
          simp only
          cases hld : σ.loadN b o (Nat.mul ln i.size) with
          | none => trivial
          | some old =>
            simp only
            obtain ⟨olds, hol, hoc, hocell, hor, hoo⟩ := r.loadN hld hpl
            have hoc' : old.length = ln * i.size := hoc
            have hfo : ∀ w' : World, w'.heap = w.heap → (Builtin.firstCells i.size ln (.slice (some q) ln cap')).run P w' = .ok olds.toArray w' := by
              intro w' hw'
              rcases k4 with k4 | ⟨k4, _⟩
              · have hl0 : ln = 0 := by omega
                subst hl0
                have : olds = [] := List.length_eq_zero_iff.1 (by rw [hol, hoc', Nat.zero_mul])
                subst this
                show (loadCells q (0 * i.size)).run P w' = _
                rw [Nat.zero_mul]
                rfl
              · subst k4
                have := run_loadCells_list (P := P) w' ⟨pl.p, pl.o + o, none⟩ olds (fun j v hj => by rw [cellEq hw']; exact hocell j v hj)
                rw [hol, hoc'] at this
                exact this
            cases ex with
            | true =>
              have := k3 rfl
              exact grows (σ1 := σ) hv (by omega) r (.refl _ _ _) rfl hor hoc' hoo (hfo _ rfl)
            | false =>
              by_cases hg : cap' < ln + n
              · obtain ⟨rk, ek⟩ := r.kill b
                exact grows (σ1 := σ.kill b) hv hg rk ek rfl hor hoc' hoo (hfo _ rfl)
              · -- in the room behind it
                have hcap0 : cap' ≠ 0 := by omega
                rcases k4 with k4 | ⟨k4, k5⟩
                · exact absurd k4 hcap0
                · have hroom : o + cap' * i.size ≤ pl.room := by
                    rcases k5 with k5 | k5
                    · cases k5
                    · exact k5
                  subst k4
                  obtain ⟨cs, hcs⟩ : ∃ cs, σ.get b = some (.cells cs) := by
                    unfold Heap.loadN at hld
                    split at hld
                    · rename_i cs hcs; exact ⟨cs, hcs⟩
                    · cases hld
                  obtain ⟨m', hm', ho'⟩ := r.objs b _ hcs
                  rw [hpl] at hm'
                  cases hm'
                  obtain ⟨c, e', lo, hi2, g1, g2, g3, g4, g5, g6⟩ := ho'
                  have hmul : (ln + n) * i.size ≤ cap' * i.size := Nat.mul_le_mul_right _ (by omega)
                  rw [Nat.add_mul] at hmul
                  have hone : ∀ v ∈ vs, v.oneCell' = true := by
                    intro v hx'
                    obtain ⟨j, hj, rfl⟩ := List.mem_iff_getElem.1 hx'
                    have ha : xs[j]? = some (xs[j]'(by omega)) := List.getElem?_eq_getElem (by omega)
                    obtain ⟨v', hv', hr'⟩ := hvs.get _ _ ha
                    rw [List.getElem?_eq_getElem hj] at hv'
                    cases hv'
                    exact hr'.oneCell (hones _ (List.mem_of_getElem? ha))
                  have hrun' := run_store_range P pl.p (pl.o + o + ln * i.size) e' lo hi2 vs 0 c w g1 g6 (by omega) hone
                  simp only [Nat.add_zero] at hrun'
                  have hcl : c.toList.length = c.size := by simp
                  have hc'l : (c.toList.take (pl.o + o + ln * i.size) ++ vs ++ c.toList.drop (pl.o + o + ln * i.size + vs.length)).toArray.size = c.size := by
                    simp
                    omega
                  have hcol : (c.toList.drop (pl.o + o)).take (ln * i.size) = olds := by
                    apply List.ext_getElem?
                    intro j
                    by_cases hj : j < ln * i.size
                    · have hj' : j < olds.length := by omega
                      rw [List.getElem?_take, if_pos hj, List.getElem?_drop]
                      have h1 := hocell j _ (List.getElem?_eq_getElem hj')
                      rw [addr_add] at h1
                      simp only [World.cell?, g1, Option.isSome_none] at h1
                      rw [List.getElem?_eq_getElem hj']
                      simpa using h1
                    · rw [List.getElem?_take, if_neg hj, List.getElem?_eq_none (by omega)]
                  obtain ⟨μ', ra, ea, em⟩ := r.moved (o := o) hcs hpl g1 g6 g2 hc'l (cs' := old ++ xs) (by simp; omega) (by
                    have hdt : ((c.toList.take (pl.o + o + ln * i.size) ++ vs ++ c.toList.drop (pl.o + o + ln * i.size + vs.length)).toArray.toList.drop (pl.o + o)).take (old ++ xs).length = olds ++ vs := by
                      have e1 : c.toList.take (pl.o + o + ln * i.size) = c.toList.take (pl.o + o) ++ olds := by
                        rw [← hcol, List.take_add]
                      have e2 : (c.toList.take (pl.o + o)).length = pl.o + o := by
                        rw [List.length_take]
                        omega
                      rw [e1]
                      simp only [List.append_assoc]
                      rw [List.drop_append_of_le_length (by omega), List.drop_of_length_le (by omega), List.nil_append, ← List.append_assoc, List.take_append_of_le_length (by simp; omega), List.take_of_length_le (by simp; omega)]
                    rw [hdt]
                    exact hor.append hvs) (by
                    intro a ha
                    rcases List.mem_append.1 ha with ha | ha
                    · exact hoo a ha
                    · exact hones a ha)
                  have hrun := run_append_fits (ty := ty) hT hi (base := some ⟨pl.p, pl.o + o, none⟩) (sLen := ln) (sCap := cap') (hlen w) (hfc w rfl) (by omega) (w' := _) (by
                    simp only [addr_add]
                    exact hrun')
                  rw [← hv] at hrun
                  refine fin hrun ra ea ?_
                  simp only [VRel]
                  refine ⟨_, cap', rfl, Nat.le_refl _, by show ln + n ≤ cap'; omega, (fun h => by cases h), _, em, .inr ⟨by simp, .inr ?_⟩⟩
                  show 0 + cap' * i.size ≤ pl.room - o
                  omega
  | _ => trivial

theorem good_copy (r : Rel μ σ w) (h : HOpd P μ ts ρ) {argTypes : Array TypeId} {ty t e : TypeId} (h0 : argTypes[0]? = some t) (ht : P.underlying t = some (.slice e)) {i : TypeInfo} (hi : P.info? e = some i)
    {d s : Operand} {d' s' : Opd} (hd : compOpd P d = some d') (hs : compOpd P s = some s') :
    Good μ σ w (oCopy i.size d' s' ts σ) ((do pure (Next.value (← Builtin.copy_ argTypes ty #[ρ d, ρ s])) : Sem Next).run P w) := by
  have hrd := h _ _ hd
  have hrs := h _ _ hs
  unfold oCopy
  cases hdv : d'.ev ts with
  | slice a dLen cap ex esz' =>
    rw [hdv] at hrd
    simp only
    cases hln : lenA (s'.ev ts) with
    | none => trivial
    | some m =>
      have hN : (Bool.casesOn (Nat.ble m dLen) dLen m : Nat) = Nat.min m dLen := by
        cases hb : Nat.ble m dLen with
        | true => have := Nat.le_of_ble_eq_true hb; exact (Nat.min_eq_left this).symm
        | false =>
          have : ¬ m ≤ dLen := fun hh => by rw [ble_iff.2 hh] at hb; cases hb
          have h' : dLen ≤ m := by omega
          exact (Nat.min_eq_right h').symm
      simp only [hN]
      have hnm : Nat.min m dLen ≤ m := Nat.min_le_left _ _
      have hnd : Nat.min m dLen ≤ dLen := Nat.min_le_right _ _
      have hrun : ∀ {base : Option Addr} {cap' : Nat} {vs : List Value} {w' : World}, ρ d = .slice base dLen cap' → (Builtin.firstCells i.size (Nat.min m dLen) (ρ s)).run P w = .ok vs.toArray w →
          (match base with | some a => (storeCells a vs).run P w = .ok () w' | none => w' = w) → (Builtin.copy_ argTypes ty #[ρ d, ρ s]).run P w = .ok (.int .i64 (Int.ofNat (Nat.min m dLen))) w' := by
        intro base cap' vs w' hv hf hst
        have hi2 : (sizeOf e).run P w = .ok i.size w := by simp [sizeOf, typeInfo, hi]
        rw [hv]
        unfold Builtin.copy_
        cases base with
        | none =>
          subst hst
          simp only [List.getElem?_toArray, List.getElem?_cons_zero, List.getElem?_cons_succ, h0, Sem.run_bind, run_underlying ht, Result.andThen_ok, run_lenOf hrs hln, hi2, hf]
          rfl
        | some a =>
          simp only [List.getElem?_toArray, List.getElem?_cons_zero, List.getElem?_cons_succ, h0, Sem.run_bind, run_underlying ht, Result.andThen_ok, run_lenOf hrs hln, hi2, hf, hst]
          rfl
      generalize Nat.min m dLen = n at hnm hnd hrun ⊢
      cases hxs : elemsOf i.size σ n (s'.ev ts) with
      | none => trivial
      | some xs =>
        obtain ⟨vs, hvs, hxl, hfc⟩ := elems_rel (P := P) r hrs hln hnm hxs
        have hvl := hvs.length
        cases a with
        | none =>
          simp only [VRel] at hrd
          obtain ⟨k1, k2, hv⟩ := hrd
          subst k1 k2
          dsimp only
          cases hnx : isNil xs with
          | false => trivial
          | true =>
            exact Good.val r (x := .int .i64 (Int.ofNat n)) (by rw [Sem.run_bind, hrun hv (hfc w rfl) rfl]; rfl) (VRel.mkInt _ _)
        | some q =>
          obtain ⟨b, o⟩ := q
          simp only [VRel] at hrd
          obtain ⟨q, cap', hv, k1, k2, k3, pl, hpl, k4⟩ := hrd
          dsimp only
          cases hez : Nat.beq esz' i.size with
          | false => trivial
          | true =>
          have := Nat.eq_of_beq_eq_true hez
          subst this
          cases hnx : isNil xs with
          | true =>
            have := isNil_eq hnx
            subst this
            have hv0 : vs = [] := List.length_eq_zero_iff.1 (by simpa using hvl)
            subst hv0
            exact Good.val r (x := .int .i64 (Int.ofNat n)) (by rw [Sem.run_bind, hrun hv (hfc w rfl) (w' := w) rfl]; rfl) (VRel.mkInt _ _)
          | false =>
            dsimp only
            cases hst : σ.storeN b o xs with
            | none => trivial
            | some σ' =>
              obtain ⟨w', hrun', hrel, hext⟩ := r.storeN P hst hpl hvs
              have hq : q = ⟨pl.p, pl.o + o, none⟩ := by
                rcases k4 with k4 | ⟨k4, _⟩
                · exfalso
                  have hn0 : n = 0 := by omega
                  subst hn0
                  have : xs = [] := List.length_eq_zero_iff.1 (by rw [hxl, Nat.zero_mul])
                  subst this
                  cases hnx
                · exact k4
              subst hq
              exact ⟨μ, w', .int .i64 (Int.ofNat n), .inl (by rw [Sem.run_bind, hrun hv (hfc w rfl) hrun']; rfl), hrel, hext, VRel.mkInt _ _⟩
  | _ => trivial

end
end Go.Ab
