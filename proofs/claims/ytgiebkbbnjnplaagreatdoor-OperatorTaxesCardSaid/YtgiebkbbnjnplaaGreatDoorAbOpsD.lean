/- Operations, one by one. Part D: nil, pointers, one operand, conversions, closures, new maps and slices. -/
import Derived.Test.YtgiebkbbnjnplaaGreatDoorAbOpsC
namespace Go.Ab
section
variable {P : Program} {μ : Mu} {σ : Heap} {w : World} {ts : Tmps} {ρ : Operand → Value}

theorem isNilConst_const {x : Operand} (h : isNilConst x = true) : ∃ v, x = .const v := by
  unfold isNilConst at h
  split at h <;> first | exact ⟨_, rfl⟩ | cases h

theorem run_eqGuard_nil (op : BinOp) (t : TypeId) (x y : Operand) (h : isNilConst x = true ∨ isNilConst y = true) : (eqGuard op t x y .nilIface .nilIface).run P w = .ok () w := by
  unfold eqGuard
  rcases h with h | h
  · obtain ⟨v, rfl⟩ := isNilConst_const h
    cases op <;> rfl
  · obtain ⟨v, rfl⟩ := isNilConst_const h
    cases op <;> cases x <;> rfl

theorem run_eqNilA {nk : NK} {t : TypeId} {d : TypeDesc} (ht : P.underlying t = some d) (hd : nilKind d = some nk) {a b : AVal} {v u : Value} (ha : VRel μ a v) (hb : VRel μ b u) {r : Bool} (h : eqNilA nk a b = some r) :
    (∀ k, (Op.equalIn (k + 1) t v u).run P w = .ok r w) ∧ (∀ op, op = .eql ∨ op = .neq → binOp op t v u = match op with | .eql => (do pure (.bool (← Op.equal t v u)) : Sem Value) | _ => (do pure (.bool (!(← Op.equal t v u))) : Sem Value)) ∧
    ((v = .nilIface ∧ u = .nilIface) ∨ ((v ≠ .nilIface ∨ u ≠ .nilIface) ∧ (∀ cs, v ≠ .agg cs))) := by
  have pk : nk = .ptr → ∃ e, d = .pointer e := fun e => by subst e; unfold nilKind at hd; split at hd <;> first | exact ⟨_, rfl⟩ | cases hd
  have sk : nk = .slice → ∃ e, d = .slice e := fun e => by subst e; unfold nilKind at hd; split at hd <;> first | exact ⟨_, rfl⟩ | cases hd
  have mk : nk = .map → ∃ e f, d = .map e f := fun e => by subst e; unfold nilKind at hd; split at hd <;> first | exact ⟨_, _, rfl⟩ | cases hd
  have fk : nk = .func → ∃ e f g, d = .func e f g := fun e => by subst e; unfold nilKind at hd; split at hd <;> first | exact ⟨_, _, _, rfl⟩ | cases hd
  have ik : nk = .iface → ∃ e, d = .interface e := fun e => by subst e; unfold nilKind at hd; split at hd <;> first | exact ⟨_, rfl⟩ | cases hd
  unfold eqNilA at h
  split at h
  · rename_i p
    obtain ⟨e, rfl⟩ := pk rfl
    simp only [VRel] at ha
    subst ha
    cases p with
    | none => simp only [VRel] at hb; subst hb; cases h; exact ⟨fun k => by simp only [Op.equalIn, Sem.run_bind, run_underlying ht, Result.andThen_ok]; rfl, fun op hop => by rcases hop with rfl | rfl <;> rfl, .inr ⟨.inl (by simp), by simp⟩⟩
    | some q => obtain ⟨b', o⟩ := q; obtain ⟨m, _, rfl⟩ := hb.ptr; cases h; exact ⟨fun k => by simp only [Op.equalIn, Sem.run_bind, run_underlying ht, Result.andThen_ok]; rfl, fun op hop => by rcases hop with rfl | rfl <;> rfl, .inr ⟨.inl (by simp), by simp⟩⟩
  · rename_i q
    obtain ⟨e, rfl⟩ := pk rfl
    obtain ⟨b', o⟩ := q
    obtain ⟨m, _, rfl⟩ := ha.ptr
    simp only [VRel] at hb
    subst hb
    cases h
    exact ⟨fun k => by simp only [Op.equalIn, Sem.run_bind, run_underlying ht, Result.andThen_ok]; rfl, fun op hop => by rcases hop with rfl | rfl <;> rfl, .inr ⟨.inl (by simp), by simp⟩⟩
  · rename_i p _ _ _ _
    obtain ⟨e, rfl⟩ := sk rfl
    simp only [VRel] at ha
    obtain ⟨_, _, rfl⟩ := ha
    cases p with
    | none => simp only [VRel] at hb; obtain ⟨_, _, rfl⟩ := hb; cases h; exact ⟨fun k => by simp only [Op.equalIn, Sem.run_bind, run_underlying ht, Result.andThen_ok]; rfl, fun op hop => by rcases hop with rfl | rfl <;> rfl, .inr ⟨.inl (by simp), by simp⟩⟩
    | some q => obtain ⟨b', o⟩ := q; simp only [VRel] at hb; obtain ⟨q, cap', rfl, _⟩ := hb; cases h; exact ⟨fun k => by simp only [Op.equalIn, Sem.run_bind, run_underlying ht, Result.andThen_ok]; rfl, fun op hop => by rcases hop with rfl | rfl <;> rfl, .inr ⟨.inl (by simp), by simp⟩⟩
  · rename_i q _ _ _ _ _ _ _ _
    obtain ⟨e, rfl⟩ := sk rfl
    obtain ⟨b', o⟩ := q
    simp only [VRel] at ha
    obtain ⟨q, cap', rfl, _⟩ := ha
    simp only [VRel] at hb
    obtain ⟨_, _, rfl⟩ := hb
    cases h
    exact ⟨fun k => by simp only [Op.equalIn, Sem.run_bind, run_underlying ht, Result.andThen_ok]; rfl, fun op hop => by rcases hop with rfl | rfl <;> rfl, .inr ⟨.inl (by simp), by simp⟩⟩
  · rename_i p
    obtain ⟨e, f, rfl⟩ := mk rfl
    simp only [VRel] at ha
    subst ha
    cases p with
    | none => simp only [VRel] at hb; subst hb; cases h; exact ⟨fun k => by simp only [Op.equalIn, Sem.run_bind, run_underlying ht, Result.andThen_ok]; rfl, fun op hop => by rcases hop with rfl | rfl <;> rfl, .inr ⟨.inl (by simp), by simp⟩⟩
    | some q => simp only [VRel] at hb; obtain ⟨m, _, rfl⟩ := hb; cases h; exact ⟨fun k => by simp only [Op.equalIn, Sem.run_bind, run_underlying ht, Result.andThen_ok]; rfl, fun op hop => by rcases hop with rfl | rfl <;> rfl, .inr ⟨.inl (by simp), by simp⟩⟩
  · obtain ⟨e, f, rfl⟩ := mk rfl
    simp only [VRel] at ha
    obtain ⟨m, _, rfl⟩ := ha
    simp only [VRel] at hb
    subst hb
    cases h
    exact ⟨fun k => by simp only [Op.equalIn, Sem.run_bind, run_underlying ht, Result.andThen_ok]; rfl, fun op hop => by rcases hop with rfl | rfl <;> rfl, .inr ⟨.inl (by simp), by simp⟩⟩
  · obtain ⟨e, f, g, rfl⟩ := fk rfl
    simp only [VRel] at ha hb
    subst ha hb
    cases h
    exact ⟨fun k => by simp only [Op.equalIn, Sem.run_bind, run_underlying ht, Result.andThen_ok]; rfl, fun op hop => by rcases hop with rfl | rfl <;> rfl, .inr ⟨.inl (by simp), by simp⟩⟩
  · obtain ⟨e, f, g, rfl⟩ := fk rfl
    simp only [VRel] at ha hb
    subst ha
    obtain ⟨vs, rfl, _⟩ := hb
    cases h
    exact ⟨fun k => by simp only [Op.equalIn, Sem.run_bind, run_underlying ht, Result.andThen_ok]; rfl, fun op hop => by rcases hop with rfl | rfl <;> rfl, .inr ⟨.inl (by simp), by simp⟩⟩
  · obtain ⟨e, f, g, rfl⟩ := fk rfl
    simp only [VRel] at ha hb
    subst hb
    obtain ⟨vs, rfl, _⟩ := ha
    cases h
    exact ⟨fun k => by simp only [Op.equalIn, Sem.run_bind, run_underlying ht, Result.andThen_ok]; rfl, fun op hop => by rcases hop with rfl | rfl <;> rfl, .inr ⟨.inl (by simp), by simp⟩⟩
  · obtain ⟨e, rfl⟩ := ik rfl
    simp only [VRel] at ha hb
    subst ha
    obtain ⟨x, rfl, _⟩ := hb
    cases h
    exact ⟨fun k => by simp only [Op.equalIn, Sem.run_bind, run_underlying ht, Result.andThen_ok]; rfl, fun op hop => by rcases hop with rfl | rfl <;> rfl, .inr ⟨.inr (by simp), by simp⟩⟩
  · obtain ⟨e, rfl⟩ := ik rfl
    simp only [VRel] at ha hb
    subst hb
    obtain ⟨x, rfl, _⟩ := ha
    cases h
    exact ⟨fun k => by simp only [Op.equalIn, Sem.run_bind, run_underlying ht, Result.andThen_ok]; rfl, fun op hop => by rcases hop with rfl | rfl <;> rfl, .inr ⟨.inl (by simp), by simp⟩⟩
  · obtain ⟨e, rfl⟩ := ik rfl
    simp only [VRel] at ha hb
    subst ha hb
    cases h
    exact ⟨fun k => by simp only [Op.equalIn, Sem.run_bind, run_underlying ht, Result.andThen_ok]; rfl, fun op hop => by rcases hop with rfl | rfl <;> rfl, .inl ⟨rfl, rfl⟩⟩
  · cases h

theorem good_eqNil (r : Rel μ σ w) (h : HOpd P μ ts ρ) {neg : Bool} {nk : NK} {t : TypeId} {d : TypeDesc} (ht : P.underlying t = some d) (hd : nilKind d = some nk) {x y : Operand} {x' y' : Opd} (hx : compOpd P x = some x') (hy : compOpd P y = some y')
    (hn : (isNilConst x || isNilConst y) = true) :
    Good μ σ w (oEqNil neg nk x' y' ts σ) ((do pure (Next.value (← (do eqGuard (if neg then .neq else .eql) t x y (ρ x) (ρ y); binOp (if neg then .neq else .eql) t (ρ x) (ρ y) : Sem Value))) : Sem Next).run P w) := by
  unfold oEqNil
  split
  · rename_i b hb
    obtain ⟨h1, h2, h3⟩ := run_eqNilA (P := P) (w := w) ht hd (h _ _ hx) (h _ _ hy) hb
    refine Good.val r (x := .bool (negIf neg b)) ?_ (VRel.mkBool _)
    rw [Sem.run_bind, run_eqlneq (P := P) (w := w) t neg x y _ _ (b := b) ?_ (h1 9999) h2]
    · rfl
    · intro op
      rcases h3 with ⟨e1, e2⟩ | ⟨e1, e2⟩
      · rw [e1, e2]
        exact run_eqGuard_nil op t x y (by simpa using hn)
      · exact run_eqGuard_plain op t x y _ _ e1 (.inl e2)
  · trivial

theorem good_eqPtr (r : Rel μ σ w) (h : HOpd P μ ts ρ) {neg : Bool} {t e : TypeId} (ht : P.underlying t = some (.pointer e)) {n : Nat} (hn : sizeAt P e = some n) (hn0 : n ≠ 0) {x y : Operand} {x' y' : Opd} (hx : compOpd P x = some x') (hy : compOpd P y = some y') :
    Good μ σ w (oEqPtr neg x' y' ts σ) ((do pure (Next.value (← (do eqGuard (if neg then .neq else .eql) t x y (ρ x) (ρ y); binOp (if neg then .neq else .eql) t (ρ x) (ρ y) : Sem Value))) : Sem Next).run P w) := by
  have hrx := h _ _ hx
  have hry := h _ _ hy
  unfold oEqPtr
  split
  · rename_i b o b' o' e1 e2
    rw [e1] at hrx
    rw [e2] at hry
    cases hb : Nat.beq b b' with
    | false => trivial
    | true =>
      cases Nat.eq_of_beq_eq_true hb
      obtain ⟨m, hm, hv⟩ := hrx.ptr
      obtain ⟨m', hm', hu⟩ := hry.ptr
      rw [hm] at hm'
      cases hm'
      rw [hv, hu]
      refine Good.val r (x := .bool (negIf neg (Nat.beq o o'))) ?_ (VRel.mkBool _)
      rw [Sem.run_bind, run_eqlneq (P := P) (w := w) t neg x y _ _ (b := Nat.beq o o')]
      · rfl
      · intro op; exact run_eqGuard_plain op t x y _ _ (.inl (by simp)) (.inl (by simp))
      · have hs := run_sizeOf' (w := w) hn
        have key : ∀ k, (Op.equalIn (k + 1) t (.pointer (some ⟨m.p, m.o + o, none⟩)) (.pointer (some ⟨m.p, m.o + o', none⟩))).run P w = .ok (Nat.beq o o') w := by
          intro k
          simp only [Op.equalIn, Sem.run_bind, run_underlying ht, Result.andThen_ok, hs]
          rw [if_pos hn0]
          simp only [sameAddr, beq_self_eq_true, if_true, Sem.run_pure]
          congr 1
          rw [Bool.eq_iff_iff]
          simp
        exact key 9999
      · intro op hop
        rcases hop with rfl | rfl <;> rfl
  · trivial

end
end Go.Ab
