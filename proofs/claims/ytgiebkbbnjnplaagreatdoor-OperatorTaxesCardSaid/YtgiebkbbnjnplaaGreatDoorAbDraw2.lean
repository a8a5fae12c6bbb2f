/- Regions that draw their order: what the steps taken for them say of each operation. -/
import Derived.Test.YtgiebkbbnjnplaaGreatDoorAbDraw1
namespace Go.Ab

mutual
theorem AVal.beq_eq : ∀ (a b : AVal), AVal.beq a b = true → a = b
  | .bool _, b, h => by cases b <;> simp [AVal.beq] at h; simp [h]
  | .int _ _, b, h => by cases b <;> simp [AVal.beq] at h; simp [h]
  | .str _, b, h => by cases b <;> simp [AVal.beq] at h; simp [h]
  | .ptr _, b, h => by cases b <;> simp [AVal.beq] at h; simp [h]
  | .slice _ _ _ _ _, b, h => by cases b <;> simp [AVal.beq] at h; simp [h]
  | .map _, b, h => by cases b <;> simp [AVal.beq] at h; simp [h]
  | .func f as, b, h => by
    cases b <;> simp [AVal.beq] at h
    rename_i g bs
    rw [h.1, AVal.beqs_eq as bs h.2]
  | .nilFunc, b, h => by cases b <;> simp [AVal.beq] at h; rfl
  | .iface t x, b, h => by
    cases b <;> simp [AVal.beq] at h
    rename_i u y
    rw [h.1, AVal.beq_eq x y h.2]
  | .nilIface, b, h => by cases b <;> simp [AVal.beq] at h; rfl
  | .agg as, b, h => by
    cases b <;> simp [AVal.beq] at h
    rename_i bs
    rw [AVal.beqs_eq as bs h]
  | .tuple as, b, h => by
    cases b <;> simp [AVal.beq] at h
    rename_i bs
    rw [AVal.beqs_eq as bs h]
theorem AVal.beqs_eq : ∀ (as bs : List AVal), AVal.beqs as bs = true → as = bs
  | [], bs, h => by cases bs <;> simp [AVal.beqs] at h; rfl
  | a :: as, bs, h => by
    cases bs <;> simp [AVal.beqs] at h
    rename_i b bs
    rw [AVal.beq_eq a b h.1, AVal.beqs_eq as bs h.2]
end

/-- What a step of an item says. -/
def StepOk (call : CallFn) (it : Item) (ts : Tmps) (σ : Heap) (v : AVal) (σ' : Heap) (ts' : Tmps) : Prop :=
  ts' = putT it.dst v ts ∧ ((wantedA it.guard ts = false ∧ v = .undef ∧ σ' = σ) ∨ (wantedA it.guard ts = true ∧ evOp it.op call ts σ = .val v σ'))

/-- What a recheck says. -/
def ReOk (it : Item) (ts : Tmps) (σ : Heap) : Prop :=
  wantedA it.guard ts = false ∨ ∃ d σ', it.dst = some d ∧ pureOp it.op ts σ = .val (tmpOf ts d) σ'

theorem evStep_stepOf (call : CallFn) (it : Item) (k : RunF) (aa : AAct) (σ : Heap) : evStep (stepOf it) call k aa σ = execItem call it k aa σ := stepOf_eq it call k aa σ

theorem evSteps_append_rechecks {call : CallFn} {S : Res → Prop} (hf : ¬ S .fail) (items : List Item) (l : List Step) (aa : AAct) (σ : Heap) : ∀ (re : List Nat),
    S (evSteps call ((re.filterMap fun j => (items[j]?).map .recheck) ++ l) aa σ) → S (evSteps call l aa σ) ∧ ∀ j ∈ re, ∀ x, items[j]? = some x → ReOk x aa.tmps σ
  | [], h => ⟨h, fun j hj => by cases hj⟩
  | j :: re, h => by
    cases hj : items[j]? with
    | none =>
      simp only [List.filterMap_cons, hj, Option.map_none] at h
      obtain ⟨h1, h2⟩ := evSteps_append_rechecks hf items l aa σ re h
      refine ⟨h1, fun i hi x hx => ?_⟩
      rcases List.mem_cons.1 hi with rfl | hi
      · rw [hj] at hx; cases hx
      · exact h2 i hi x hx
    | some y =>
      simp only [List.filterMap_cons, hj, Option.map_some, List.cons_append] at h
      rw [evSteps_cons] at h
      have h' : S (againItem y (evSteps call ((re.filterMap fun j => (items[j]?).map .recheck) ++ l)) aa σ) := h
      unfold againItem at h'
      cases hw : wantedA y.guard aa.tmps with
      | false =>
        rw [hw] at h'
        obtain ⟨h1, h2⟩ := evSteps_append_rechecks hf items l aa σ re h'
        refine ⟨h1, fun i hi x hx => ?_⟩
        rcases List.mem_cons.1 hi with rfl | hi
        · rw [hj] at hx; cases hx; exact .inl hw
        · exact h2 i hi x hx
      | true =>
        rw [hw] at h'
        dsimp only at h'
        split at h'
        · rename_i v σ1 d e1 e2
          cases hb : AVal.beq v (tmpOf aa.tmps d) with
          | false => rw [hb] at h'; exact (hf h').elim
          | true =>
            rw [hb] at h'
            obtain ⟨h1, h2⟩ := evSteps_append_rechecks hf items l aa σ re h'
            refine ⟨h1, fun i hi x hx => ?_⟩
            rcases List.mem_cons.1 hi with rfl | hi
            · rw [hj] at hx; cases hx
              have := AVal.beq_eq _ _ hb
              subst this
              exact .inr ⟨d, σ1, e2, e1⟩
            · exact h2 i hi x hx
        · exact (hf h').elim

/-- The steps of a region that draws its order, one by one. -/
theorem trace {call : CallFn} (hcall : ∀ f args σ f' args' σ', call f args σ ≠ .defr f' args' σ') {S : Res → Prop} (hf : ¬ S .fail) (hp : ∀ v a σ, ¬ S (.done (.panic v) a σ))
    (before : Array Nat) (items : List Item) (ks : List (Nat × OpSort)) (hnd : ∀ it ∈ items, noDefer it.op = true) : ∀ (L past : List Nat) (aa : AAct) (σ : Heap), (∀ i ∈ L, ∃ it, items[i]? = some it) →
    S (evSteps call (scriptOf before items ks L past) aa σ) →
    ∃ (H : Nat → Heap) (T : Nat → Tmps) (V : Nat → AVal), H 0 = σ ∧ T 0 = aa.tmps ∧ S (.done .normal ⟨T L.length, aa.defers⟩ (H L.length)) ∧
      ∀ k i, L[k]? = some i → ∀ it, items[i]? = some it → StepOk call it (T k) (H k) (V k) (H (k + 1)) (T (k + 1)) ∧
        (sortOf it.op = .chain → ∀ j ∈ past ++ L.take k, ∀ x, items[j]? = some x → sortOf x.op = .read → (before.getD i 0).testBit j = false → ReOk x (T (k + 1)) (H (k + 1)))
  | [], past, aa, σ, _, h => ⟨fun _ => σ, fun _ => aa.tmps, fun _ => .undef, rfl, rfl, h, fun k i hk => by simp at hk⟩
  | i :: rest, past, aa, σ, hall, h => by
    obtain ⟨it, hi⟩ := hall i (by simp)
    have hnd' := hnd it (List.mem_of_getElem? hi)
    simp only [scriptOf, hi] at h
    rw [List.cons_append, evSteps_cons, evStep_stepOf] at h
    -- the step itself
    have key : ∃ v σ', StepOk call it aa.tmps σ v σ' (putT it.dst v aa.tmps) ∧
        S (evSteps call (((if sortOf it.op == .chain then (past.filter fun j => (match items[j]? with | some x => sortOf x.op == .read | none => false) && !(before.getD i 0).testBit j) else []).filterMap fun j => (items[j]?).map .recheck) ++
          scriptOf before items ks rest (past ++ [i])) (aa.put it.dst v) σ') := by
      unfold execItem at h
      cases hw : wantedA it.guard aa.tmps with
      | false =>
        rw [hw] at h
        exact ⟨.undef, σ, ⟨rfl, .inl ⟨hw, rfl, rfl⟩⟩, h⟩
      | true =>
        rw [hw] at h
        dsimp only at h
        cases hev : evOp it.op call aa.tmps σ with
        | val v σ' =>
          rw [hev] at h
          exact ⟨v, σ', ⟨rfl, .inr ⟨hw, hev⟩⟩, h⟩
        | defr f args σ' =>
          exact (evOp_defr hnd' hcall hev).elim
        | panic v σ' => rw [hev] at h; exact (hp _ _ _ h).elim
        | fail => rw [hev] at h; exact (hf h).elim
    obtain ⟨v, σ', hst, h2⟩ := key
    obtain ⟨h3, hre⟩ := evSteps_append_rechecks hf items _ _ _ _ h2
    obtain ⟨H, T, V, h0, t0, hS, hrest⟩ := trace hcall hf hp before items ks hnd rest (past ++ [i]) (aa.put it.dst v) σ' (fun j hj => hall j (by simp [hj])) h3
    refine ⟨fun k => Nat.casesOn k σ H, fun k => Nat.casesOn k aa.tmps T, fun k => Nat.casesOn k v V, rfl, rfl, hS, ?_⟩
    intro k j hk x hx
    cases k with
    | zero =>
      simp at hk
      subst hk
      rw [hi] at hx
      cases hx
      refine ⟨?_, ?_⟩
      · show StepOk call it aa.tmps σ v (H 0) (T 0)
        rw [h0, t0]
        exact hst
      · intro hc j hj y hy hr hb
        show ReOk y (T 0) (H 0)
        rw [h0, t0]
        refine hre j ?_ y hy
        rw [if_pos (by simp [hc])]
        rw [List.mem_filter]
        refine ⟨by simpa using hj, ?_⟩
        simp only [hy, hr, hb]
        rfl
    | succ k =>
      obtain ⟨g1, g2⟩ := hrest k j (by simpa using hk) x hx
      refine ⟨g1, fun hc j' hj' => g2 hc j' ?_⟩
      simpa using hj'

end Go.Ab
