/- Operations, one by one. Part C: equality. -/
import Derived.Test.YtgiebkbbnjnplaaGreatDoorAbOpsB
namespace Go.Ab
section
variable {P : Program} {μ : Mu} {σ : Heap} {w : World} {ts : Tmps} {ρ : Operand → Value}

theorem eqCellsA_append : ∀ (ks ls : List CK) (as bs cs ds : List AVal), as.length = ks.length → bs.length = ks.length →
    eqCellsA (ks ++ ls) (as ++ cs) (bs ++ ds) = (match eqCellsA ks as bs with | some true => eqCellsA ls cs ds | r => r)
  | [], ls, [], [], cs, ds, _, _ => by simp [eqCellsA]
  | [], _, _ :: _, _, _, _, h, _ => by cases h
  | [], _, [], _ :: _, _, _, _, h => by cases h
  | _ :: _, _, [], _, _, _, h, _ => by cases h
  | _ :: _, _, _ :: _, [], _, _, _, h => by cases h
  | k :: ks, ls, a :: as, b :: bs, cs, ds, h, h' => by
    simp only [List.cons_append, eqCellsA]
    cases eqCell k a b with
    | none => rfl
    | some r =>
      cases r with
      | false => rfl
      | true => exact eqCellsA_append ks ls as bs cs ds (by simpa using h) (by simpa using h')

/-- The type of a kind. -/
def CK.fits : CK → TypeDesc → Prop
  | .bool, d => d = .bool
  | .str, d => d = .string
  | .int, d => ∃ k, d = .int k

/-- One cell against another, under the model. -/
theorem run_equal_cell {t : TypeId} {d : TypeDesc} (ht : P.underlying t = some d) {ck : CK} (hd : ck.fits d) (k : Nat) {a b : AVal} {v u : Value} (ha : VRel μ a v) (hb : VRel μ b u) {r : Bool}
    (h : eqCell ck a b = some r) : (Op.equalIn (k + 1) t v u).run P w = .ok r w := by
  unfold eqCell at h
  split at h
  · rename_i j m j' n
    cases hk : kindEq j j' with
    | false => rw [hk] at h; cases h
    | true =>
      rw [hk] at h
      cases kindEq_true hk
      cases h
      rw [ha.int, hb.int, intEq_eq]
      obtain ⟨k', hd'⟩ := hd
      subst hd'
      rw [run_equalIn_int w k t j k' m n ht]
      congr 1
  · rename_i s s'
    cases h
    rw [ha.str, hb.str, strEq_beq]
    cases hd
    rw [run_equalIn_string w k t _ _ ht]
    simp [ByteArray.toList_eq]
  · rename_i p q
    cases h
    rw [ha.bool, hb.bool]
    cases hd
    exact run_equalIn_bool' w k t p q ht
  · cases h

/-- A part of an aggregate: one cell, or a stretch. -/
theorem run_part_cell {t : TypeId} {d : TypeDesc} (ht : P.underlying t = some d) (h1 : ∀ fs, d ≠ .struct fs) (h2 : ∀ n e, d ≠ .array n e) (cs : Array Value) (off : Nat) {v : Value} (hv : cs[off]? = some v) :
    (part t cs off).run P w = .ok v w := by
  have : (isAgg t).run P w = .ok false w := by
    simp only [isAgg, Sem.run_bind, run_underlying ht, Result.andThen_ok]
    cases d with
    | struct fs => exact (h1 _ rfl).elim
    | array l e => exact (h2 _ _ rfl).elim
    | _ => rfl
  simp [part, this, hv]

theorem run_part_struct {t : TypeId} {fs : Array Field} (ht : P.underlying t = some (.struct fs)) (cs : Array Value) (off : Nat) {n : Nat} (hn : sizeAt P t = some n) :
    (part t cs off).run P w = .ok (.agg (cs.extract off (off + n))) w := by
  have : (isAgg t).run P w = .ok true w := by simp [isAgg, run_underlying ht]
  simp [part, this, run_sizeOf' hn]

/-- What an equality of two values of a type is, their cells known. -/
def EqSays (P : Program) (w : World) (μ : Mu) (d : Nat) (t : TypeId) (ks : List CK) : Prop :=
  ∀ (as bs : List AVal) (vs us : List Value) (r : Bool), VRels μ as vs → VRels μ bs us → as.length = ks.length → bs.length = ks.length → eqCellsA ks as bs = some r → ∀ k, d ≤ k →
    ((∃ fs, P.underlying t = some (.struct fs)) ∧ (Op.equalIn k t (.agg vs.toArray) (.agg us.toArray)).run P w = .ok r w) ∨
    ((∃ u, P.underlying t = some u ∧ (∀ fs, u ≠ .struct fs) ∧ (∀ n e, u ≠ .array n e)) ∧ ∃ v u, vs = [v] ∧ us = [u] ∧ (Op.equalIn k t v u).run P w = .ok r w)

theorem run_eqFields (d : Nat) (g : TypeId → Option (List CK)) (hg : ∀ t ks, g t = some ks → EqSays P w μ d t ks) (k : Nat) (hk : d ≤ k) : ∀ (fs : List Field) (off : Nat) (ks : List CK) (as bs : List AVal) (vs us : List Value) (r : Bool),
    tile P g fs off = some ks → VRels μ as vs → VRels μ bs us → as.length = off + ks.length → bs.length = off + ks.length → eqCellsA ks (as.drop off) (bs.drop off) = some r →
    (Op.eqFields k vs.toArray us.toArray fs).run P w = .ok r w
  | [], off, ks, as, bs, vs, us, r, ht, hv, hu, hl, hl', h => by
    simp only [tile, Option.some.injEq] at ht
    subst ht
    have e1 : as.drop off = [] := List.drop_eq_nil_of_le (by simp at hl; omega)
    have e2 : bs.drop off = [] := List.drop_eq_nil_of_le (by simp at hl'; omega)
    rw [e1, e2] at h
    simp only [eqCellsA, Option.some.injEq] at h
    subst h
    simp [Op.eqFields]
  | f :: fs, off, ks, as, bs, vs, us, r, ht, hv, hu, hl, hl', h => by
    unfold tile at ht
    split at ht
    · rename_i hc
      obtain ⟨hname, hoff⟩ := hc
      split at ht
      · rename_i ks1 hg1
        split at ht
        · rename_i hsz
          cases ht2 : tile P g fs (off + ks1.length) with
          | none => rw [ht2] at ht; cases ht
          | some ks2 =>
            rw [ht2] at ht
            simp only [Option.map_some, Option.some.injEq] at ht
            subst ht
            simp only [List.length_append] at hl hl'
            have ea : as.drop off = (as.drop off).take ks1.length ++ as.drop (off + ks1.length) := by
              rw [← List.drop_drop]; exact (List.take_append_drop _ _).symm
            have eb : bs.drop off = (bs.drop off).take ks1.length ++ bs.drop (off + ks1.length) := by
              rw [← List.drop_drop]; exact (List.take_append_drop _ _).symm
            rw [ea, eb, eqCellsA_append _ _ _ _ _ _ (by simp; omega) (by simp; omega)] at h
            have hv1 := (hv.drop off).take ks1.length
            have hu1 := (hu.drop off).take ks1.length
            have hvl := hv.length
            have hul := hu.length
            have key : ∀ r1, eqCellsA ks1 ((as.drop off).take ks1.length) ((bs.drop off).take ks1.length) = some r1 →
                ∃ x y, (part f.type vs.toArray f.offset).run P w = .ok x w ∧ (part f.type us.toArray f.offset).run P w = .ok y w ∧ (Op.equalIn k f.type x y).run P w = .ok r1 w := by
              intro r1 hr1
              rcases hg f.type ks1 hg1 _ _ _ _ r1 hv1 hu1 (by simp; omega) (by simp; omega) hr1 k hk with ⟨⟨ffs, hff⟩, hrun⟩ | ⟨⟨u, hff, n1, n2⟩, v, u', ev, eu, hrun⟩
              · refine ⟨_, _, run_part_struct hff _ _ hsz, run_part_struct hff _ _ hsz, ?_⟩
                rw [hoff]
                rw [List.extract_toArray, List.extract_toArray]
                simpa [List.extract_eq_take_drop] using hrun
              · have g1 : vs.toArray[f.offset]? = some v := by
                  have : ((vs.drop off).take ks1.length)[0]? = some v := by rw [ev]; rfl
                  rw [List.getElem?_take] at this
                  split at this
                  · rw [List.getElem?_drop] at this
                    rw [hoff]
                    simpa using this
                  · cases this
                have g2 : us.toArray[f.offset]? = some u' := by
                  have : ((us.drop off).take ks1.length)[0]? = some u' := by rw [eu]; rfl
                  rw [List.getElem?_take] at this
                  split at this
                  · rw [List.getElem?_drop] at this
                    rw [hoff]
                    simpa using this
                  · cases this
                exact ⟨_, _, run_part_cell hff n1 n2 _ _ g1, run_part_cell hff n1 n2 _ _ g2, hrun⟩
            cases hr1 : eqCellsA ks1 ((as.drop off).take ks1.length) ((bs.drop off).take ks1.length) with
            | none => rw [hr1] at h; cases h
            | some r1 =>
              obtain ⟨x, y, p1, p2, p3⟩ := key r1 hr1
              rw [hr1] at h
              simp only [Op.eqFields]
              rw [if_pos hname]
              simp only [Sem.run_bind, p1, p2, p3, Result.andThen_ok]
              cases r1 with
              | false =>
                simp only [Option.some.injEq] at h
                subst h
                simp
              | true =>
                simp only at h
                simp only [Bool.not_true, Bool.false_eq_true, if_false]
                exact run_eqFields d g hg k hk fs (off + ks1.length) ks2 as bs vs us r ht2 hv hu (by omega) (by omega) h
        · cases ht
      · cases ht
    · cases ht

theorem eqSays_plain : ∀ (d : Nat) (t : TypeId) (ks : List CK), plainKinds P d t = some ks → EqSays P w μ d t ks
  | 0, _, _, h => by simp [plainKinds] at h
  | d + 1, t, ks, h => by
    have ih := eqSays_plain d
    intro as bs vs us r hv hu hl hl' he k hk
    obtain ⟨k', rfl⟩ : ∃ k', k = k' + 1 := ⟨k - 1, by omega⟩
    have one : ∀ (ck : CK) (u : TypeDesc), ks = [ck] → P.underlying t = some u → ck.fits u → (∀ fs, u ≠ .struct fs) → (∀ n e, u ≠ .array n e) →
        ∃ v u', vs = [v] ∧ us = [u'] ∧ (Op.equalIn (k' + 1) t v u').run P w = .ok r w := by
      intro ck u hks hu' hfit _ _
      subst hks
      match as, bs, hl, hl', hv, hu, he with
      | [a], [b], _, _, hv, hu, he =>
        simp only [VRels] at hv hu
        obtain ⟨v, _, rfl, hva, rfl⟩ := hv
        obtain ⟨u', _, rfl, hub, rfl⟩ := hu
        refine ⟨v, u', rfl, rfl, ?_⟩
        have : eqCell ck a b = some r := by
          simp only [eqCellsA] at he
          cases hc : eqCell ck a b with
          | none => rw [hc] at he; cases he
          | some r' =>
            rw [hc] at he
            cases r' with
            | false => simpa using he
            | true => simpa using he
        exact run_equal_cell hu' hfit k' hva hub this
    unfold plainKinds at h
    split at h
    · rename_i hu'
      cases h
      right
      exact ⟨⟨_, hu', by simp, by simp⟩, one .bool _ rfl hu' rfl (by simp) (by simp)⟩
    · rename_i hu'
      cases h
      right
      exact ⟨⟨_, hu', by simp, by simp⟩, one .str _ rfl hu' rfl (by simp) (by simp)⟩
    · rename_i kk hu'
      cases h
      right
      exact ⟨⟨_, hu', by simp, by simp⟩, one .int _ rfl hu' ⟨kk, rfl⟩ (by simp) (by simp)⟩
    · rename_i fs hu'
      split at h
      · cases h
      · rename_i hst
        left
        refine ⟨⟨fs, hu'⟩, ?_⟩
        have hf : P.underlying t = some (.struct (P.fieldsOf t)) := by simp [Program.fieldsOf, hu']
        have hfs : P.fieldsOf t = fs := by simp [Program.fieldsOf, hu']
        rw [run_equalIn_struct w k' t _ _ hf (by simpa using hst), hfs]
        exact run_eqFields d (plainKinds P d) ih k' (by omega) fs.toList 0 ks as bs vs us r h hv hu (by simpa using hl) (by simpa using hl') (by simpa using he)
    · cases h

theorem negIf_eq (neg b : Bool) : negIf neg b = if neg = true then !b else b := by cases neg <;> rfl

theorem run_eqlneq (t : TypeId) (neg : Bool) (x y : Operand) (v u : Value) {b : Bool} (hg : ∀ op, (eqGuard op t x y v u).run P w = .ok () w) (h : (Op.equal t v u).run P w = .ok b w)
    (hb : ∀ op, op = .eql ∨ op = .neq → binOp op t v u = match op with | .eql => (do pure (.bool (← Op.equal t v u)) : Sem Value) | _ => (do pure (.bool (!(← Op.equal t v u))) : Sem Value)) :
    ((do eqGuard (if neg then .neq else .eql) t x y v u; binOp (if neg then .neq else .eql) t v u) : Sem Value).run P w = .ok (.bool (negIf neg b)) w := by
  simp only [Sem.run_bind, hg, Result.andThen_ok]
  cases neg
  · have := hb .eql (.inl rfl)
    simp only [Bool.false_eq_true, if_false]
    rw [this]
    simp [h, negIf]
  · have := hb .neq (.inr rfl)
    simp only [if_true]
    rw [this]
    simp [h, negIf]

theorem cellKinds_some {t : TypeId} {ks : List CK} (h : cellKinds P t = some ks) : (∃ fs, P.underlying t = some (.struct fs)) ∧ P.eqGuardType P.depth t = false ∧ plainKinds P 6 t = some ks := by
  unfold cellKinds at h
  split at h
  · rename_i fs hf
    split at h
    · cases h
    · rename_i hg
      exact ⟨⟨fs, hf⟩, by simpa using hg, h⟩
  · cases h

theorem good_eqCells (r : Rel μ σ w) (h : HOpd P μ ts ρ) {neg : Bool} {t : TypeId} {ks : List CK} (hk : cellKinds P t = some ks) {x y : Operand} {x' y' : Opd} (hx : compOpd P x = some x') (hy : compOpd P y = some y') :
    Good μ σ w (oEqCells neg ks x' y' ts σ) ((do pure (Next.value (← (do eqGuard (if neg then .neq else .eql) t x y (ρ x) (ρ y); binOp (if neg then .neq else .eql) t (ρ x) (ρ y) : Sem Value))) : Sem Next).run P w) := by
  obtain ⟨⟨fs, hf⟩, hgt, hpk⟩ := cellKinds_some hk
  have hrx := h _ _ hx
  have hry := h _ _ hy
  unfold oEqCells
  split
  · rename_i as bs e1 e2
    rw [e1] at hrx
    rw [e2] at hry
    simp only [VRel] at hrx hry
    obtain ⟨vs, ev, hv⟩ := hrx
    obtain ⟨us, eu, hu⟩ := hry
    rw [ev, eu]
    cases hl : Nat.beq (len as) (len ks) && Nat.beq (len bs) (len ks) with
    | false => trivial
    | true =>
      simp only [Bool.and_eq_true] at hl
      have l1 := Nat.eq_of_beq_eq_true hl.1
      have l2 := Nat.eq_of_beq_eq_true hl.2
      rw [len_eq, len_eq] at l1 l2
      simp only
      split
      · rename_i b hb
        rcases eqSays_plain (w := w) (μ := μ) 6 t ks hpk as bs _ _ b hv hu l1 l2 hb 10000 (by decide) with ⟨_, hrun⟩ | ⟨⟨u, hu', n1, _⟩, _⟩
        · refine Good.val r (x := .bool (negIf neg b)) ?_ (VRel.mkBool _)
          rw [Sem.run_bind, run_eqlneq (P := P) (w := w) t neg x y (.agg vs) (.agg us) (b := b)]
          · rfl
          · intro op; exact run_eqGuard_agg w op t x y vs us hgt
          · simpa [Op.equal, Op.maxDepth] using hrun
          · intro op hop
            rcases hop with rfl | rfl <;> simp [binOp]
        · rw [hf] at hu'
          cases hu'
          exact (n1 _ rfl).elim
      · trivial
  · trivial

theorem good_eqBool (r : Rel μ σ w) (h : HOpd P μ ts ρ) {neg : Bool} {t : TypeId} (ht : P.underlying t = some .bool) {x y : Operand} {x' y' : Opd} (hx : compOpd P x = some x') (hy : compOpd P y = some y') :
    Good μ σ w (oEqBool neg x' y' ts σ) ((do pure (Next.value (← (do eqGuard (if neg then .neq else .eql) t x y (ρ x) (ρ y); binOp (if neg then .neq else .eql) t (ρ x) (ρ y) : Sem Value))) : Sem Next).run P w) := by
  have hrx := h _ _ hx
  have hry := h _ _ hy
  unfold oEqBool
  split
  · rename_i a b e1 e2
    rw [e1] at hrx
    rw [e2] at hry
    rw [hrx.bool, hry.bool]
    refine Good.val r (x := .bool (negIf neg (a == b))) ?_ (VRel.mkBool _)
    rw [Sem.run_bind, run_eqlneq (P := P) (w := w) t neg x y (.bool a) (.bool b) (b := (a == b))]
    · rfl
    · intro op; exact run_eqGuard_plain op t x y _ _ (.inl (by simp)) (.inl (by simp))
    · simpa [Op.equal, Op.maxDepth] using run_equalIn_bool' w 9999 t a b ht
    · intro op hop
      rcases hop with rfl | rfl <;> simp [binOp]
  · trivial

end
end Go.Ab
