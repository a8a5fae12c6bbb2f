/- Operations: all together. -/
import Derived.Test.YtgiebkbbnjnplaaGreatDoorAbOpsM
namespace Go.Ab
section
variable {P : Program} {μ : Mu} {σ : Heap} {w : World} {ts : Tmps} {ρ : Operand → Value}

theorem omap {α β : Type} {x : Option α} {f : α → β} {b : β} (h : x.map f = some b) : ∃ a, x = some a ∧ f a = b := by
  cases x with
  | none => cases h
  | some a => exact ⟨a, rfl, by simpa using h⟩

theorem compOpds_two {P : Program} {xs : Array Operand} {x y : Opd} (h : compOpds P xs = some [x, y]) : ∃ a b, xs = #[a, b] ∧ compOpd P a = some x ∧ compOpd P b = some y := by
  unfold compOpds at h
  obtain ⟨hl, hi⟩ := mapO_some _ _ _ h
  rcases xs with ⟨l⟩
  match l, hl with
  | [a, b], _ =>
    obtain ⟨x1, e1, e2⟩ := hi 0 a (by simp)
    obtain ⟨y1, e3, e4⟩ := hi 1 b (by simp)
    simp at e2 e4
    subst e2 e4
    exact ⟨a, b, rfl, e1, e3⟩

/-- A function of the text, as an operand. -/
theorem func_opd (h : HOpd P μ ts ρ) (f : FuncId) : ρ (.func f) = .func (.func f) #[] #[] := by
  have := h (.func f) _ rfl
  simp only [Opd.ev, VRel, VRels] at this
  obtain ⟨vs, hv, he⟩ := this
  rw [hv]
  have : vs = #[] := by simpa using he
  rw [this]

theorem good_defer (h : HOpd P μ ts ρ) {c : Call} {x : Operand} (hcal : c.callee = .value x) {x' : Opd} (hx : compOpd P x = some x') {l : List Opd} (hl : compOpds P c.args = some l) {ty : TypeId} :
    Good μ σ w (oDefer x' l ts σ) ((do pure (Next.defer (← resolve ρ c ty)) : Sem Next).run P w) := by
  have hrx := h _ _ hx
  have hrl := hopds h hl
  unfold oDefer
  split
  · rename_i f caps e1
    rw [e1] at hrx
    simp only [VRel] at hrx
    obtain ⟨vs, hv, hc⟩ := hrx
    refine ⟨c.args.map ρ, vs, ?_, rfl, hrl.append hc⟩
    simp [resolve, hcal, Deferred.ofValue, hv]
  · trivial

theorem builtinSound (r : Rel μ σ w) (h : HOpd P μ ts ρ) {b : Builtin} {argTypes : Array TypeId} {args : Array Operand} {aop : AOp} (hc : compBuiltin P b argTypes args = some aop) (ty : TypeId) (consts : Array Bool) :
    Good μ σ w (evOp aop noCall ts σ) ((builtin b argTypes ty consts (args.map ρ)).run P w) := by
  unfold compBuiltin at hc
  obtain ⟨l, rfl⟩ : ∃ l : List Operand, args = l.toArray := ⟨args.toList, by simp⟩
  rw [List.map_toArray]
  dsimp only at hc
  split at hc
  · -- len
    rename_i x
    split at hc
    · rename_i y e1 e2
      cases hc
      obtain ⟨t, h0, ht⟩ := Option.bind_eq_some_iff.1 e1
      exact good_lenStr r h h0 ht e2
    · rename_i e y e1 e2
      cases hc
      obtain ⟨t, h0, ht⟩ := Option.bind_eq_some_iff.1 e1
      exact good_len r h h0 ht e2
    · rename_i k e y e1 e2
      cases hc
      obtain ⟨t, h0, ht⟩ := Option.bind_eq_some_iff.1 e1
      exact good_lenMap r h h0 ht e2
    · rename_i n e y e1 e2
      cases hc
      obtain ⟨t, h0, ht⟩ := Option.bind_eq_some_iff.1 e1
      exact good_lenConst (ts := ts) r h0 (.inl ⟨_, ht⟩) x
    · rename_i arr y e1 e2
      obtain ⟨t, h0, ht⟩ := Option.bind_eq_some_iff.1 e1
      split at hc
      · rename_i n e e3
        cases hc
        exact good_lenConst (ts := ts) r h0 (.inr ⟨_, _, ht, e3⟩) x
      · cases hc
    · cases hc
  · -- cap
    split at hc
    · rename_i e y e1 e2
      cases hc
      obtain ⟨t, h0, ht⟩ := Option.bind_eq_some_iff.1 e1
      exact good_cap r h h0 ht e2
    · cases hc
  · -- min
    split at hc
    · rename_i x' y' e1 e2
      cases hc
      exact good_min r h e1 e2
    · cases hc
  · -- max
    split at hc
    · rename_i x' y' e1 e2
      cases hc
      exact good_max r h e1 e2
    · cases hc
  · -- append
    split at hc
    · rename_i e e' s' x' e1 e2 e3 e4
      obtain ⟨t, h0, ht⟩ := Option.bind_eq_some_iff.1 e1
      obtain ⟨t', h1, ht'⟩ := Option.bind_eq_some_iff.1 e2
      split at hc
      · rename_i i z e5 e6
        split at hc
        · cases hc
        · cases hc
          exact good_append r h ⟨t, t', h0, h1, ht, .inr ⟨_, ht'⟩⟩ e5 e6 e3 e4
      · cases hc
    · rename_i e s' x' e1 e2 e3 e4
      obtain ⟨t, h0, ht⟩ := Option.bind_eq_some_iff.1 e1
      obtain ⟨t', h1, ht'⟩ := Option.bind_eq_some_iff.1 e2
      split at hc
      · rename_i i z e5 e6
        split at hc
        · cases hc
        · cases hc
          exact good_append r h ⟨t, t', h0, h1, ht, .inl ht'⟩ e5 e6 e3 e4
      · cases hc
    · cases hc
  · -- copy
    split at hc
    · rename_i e d' s' e1 e2 e3
      obtain ⟨t, h0, ht⟩ := Option.bind_eq_some_iff.1 e1
      split at hc
      · rename_i i e5
        split at hc
        · cases hc
        · cases hc
          exact good_copy r h h0 ht e5 e2 e3
      · cases hc
    · cases hc
  · -- delete
    split at hc
    · rename_i kt et m' k' e1 e2 e3
      obtain ⟨t, h0, ht⟩ := Option.bind_eq_some_iff.1 e1
      split at hc
      · rename_i ck e4
        cases hc
        exact good_delete r h h0 ht e4 e2 e3
      · cases hc
    · cases hc
  · cases hc
    trivial
  · cases hc

theorem binSound (r : Rel μ σ w) (h : HOpd P μ ts ρ) {op : BinOp} {t : TypeId} {x y : Operand} {aop : AOp} (hc : compBin P op t x y = some aop) :
    Good μ σ w (evOp aop noCall ts σ) ((do pure (Next.value (← (do eqGuard op t x y (ρ x) (ρ y); binOp op t (ρ x) (ρ y) : Sem Value))) : Sem Next).run P w) := by
  unfold compBin at hc
  split at hc
  · rename_i a b e1 e2
    split at hc
    · cases hc; exact good_bin r h e1 e2
    · cases hc; exact good_bin r h e1 e2
    · rename_i ht
      split at hc
      · cases hc; exact good_eqBool r h (neg := false) ht e1 e2
      · cases hc; exact good_eqBool r h (neg := true) ht e1 e2
      · cases hc
    · split at hc
      · rename_i ks hk
        cases hc
        exact good_eqCells r h (neg := false) hk e1 e2
      · rename_i ks hk
        cases hc
        exact good_eqCells r h (neg := true) hk e1 e2
      · cases hc
    · rename_i d _ _ _ _ hd
      split at hc
      · rename_i nk h1 h2
        split at hc
        · cases hc; exact good_eqNil r h (neg := false) hd h1 e1 e2 (by simpa using h2)
        · cases hc; exact good_eqNil r h (neg := true) hd h1 e1 e2 (by simpa using h2)
        · cases hc
      · rename_i h1 h2
        have hp : ∃ e, d = .pointer e := by
          cases d <;> simp [nilKind] at h1
          exact ⟨_, rfl⟩
        obtain ⟨e, rfl⟩ := hp
        split at hc
        · cases hc
        · rename_i n hn
          have hn' : ∃ m, sizeAt P e = some m ∧ m ≠ 0 := by
            unfold ptrSize at hn
            simp only at hn
            cases hs : sizeAt P e with
            | none => rw [hs] at hn; exact absurd rfl hn
            | some m => rw [hs] at hn; exact ⟨m, rfl, by simpa using hn⟩
          obtain ⟨m, hm, hm0⟩ := hn'
          split at hc
          · cases hc; exact good_eqPtr r h (neg := false) hd hm hm0 e1 e2
          · cases hc; exact good_eqPtr r h (neg := true) hd hm hm0 e1 e2
          · cases hc
      · cases hc
    · cases hc
  · cases hc

theorem convSound (r : Rel μ σ w) (h : HOpd P μ ts ρ) {src dst : TypeId} {x : Operand} {aop : AOp} (hc : compConvert P src dst x = some aop) :
    Good μ σ w (evOp aop noCall ts σ) ((do pure (Next.value (← convert src dst (ρ x))) : Sem Next).run P w) := by
  unfold compConvert at hc
  split at hc
  · rename_i k0 k y e1 e2 e3
    cases hc
    exact good_convInt r h e1 e2 e3
  · rename_i y e1 e2 e3
    cases hc
    exact good_convId r h e1 e2 e3
  · rename_i e y e1 e2 e3
    split at hc
    · rename_i e4
      cases hc
      exact good_bytesOf r h e1 e2 e4 e3
    · cases hc
  · rename_i e y e1 e2 e3
    split at hc
    · rename_i e4
      cases hc
      exact good_textOf r h e1 e2 e4 e3
    · cases hc
  · cases hc

end
end Go.Ab
