/- Regions that draw their order: from the check to what it is good for. -/
import Derived.Test.YtgiebkbbnjnplaaGreatDoorAbDraw6
namespace Go.Ab
section
variable {P : Program} {n : Nat} {ops : Array Oper} {items : List Item} {before : Array Nat} {order : List Nat}

theorem rowOf_some {i : Nat} {r : DRow} (h : rowOf ops items before i = some r) :
    ∃ o it, ops[i]? = some o ∧ items[i]? = some it ∧ r = { i := i, kind := sortOf it.op, dst := it.dst, looks := looksOf ops o it, bef := before.getD i 0 } := by
  unfold rowOf at h
  split at h
  · rename_i o it h1 h2
    cases h
    exact ⟨o, it, h1, h2, rfl⟩
  · cases h

theorem pairsOk_spec : ∀ (rows : List DRow), pairsOk rows = true → (∀ (k : Nat) (x : DRow), rows[k]? = some x → selfOk x = true) ∧ ∀ (j k : Nat) (x y : DRow), j < k → rows[j]? = some x → rows[k]? = some y → pairOk x y = true
  | [], _ => ⟨fun k x h => by simp at h, fun j k x y _ h => by simp at h⟩
  | z :: zs, h => by
    simp only [pairsOk, Bool.and_eq_true, List.all_eq_true] at h
    obtain ⟨⟨h1, h2⟩, h3⟩ := h
    obtain ⟨i1, i2⟩ := pairsOk_spec zs h3
    refine ⟨fun k x hk => ?_, fun j k x y hjk hx hy => ?_⟩
    · cases k with
      | zero => simp at hk; subst hk; exact h1
      | succ k => exact i1 k x (by simpa using hk)
    · cases k with
      | zero => omega
      | succ k =>
        have hy' : zs[k]? = some y := by simpa using hy
        cases j with
        | zero => simp at hx; subst hx; exact h2 y (List.mem_of_getElem? hy')
        | succ j => exact i2 j k x y (by omega) (by simpa using hx) hy'

theorem lateOk_spec : ∀ (rows : List DRow) (b : Bool), lateOk b rows = true → ∀ (k : Nat) (x : DRow), rows[k]? = some x → x.kind = .read →
    (b = true → ∃ (c : Nat) (y : DRow), c < k ∧ rows[c]? = some y ∧ y.kind = .chain) ∧ ∀ (f : Nat) (y : DRow), f < k → rows[f]? = some y → y.kind = .fresh → ∃ (c : Nat) (z : DRow), f < c ∧ c < k ∧ rows[c]? = some z ∧ z.kind = .chain
  | [], _, _, k, x, hx, _ => by simp at hx
  | z :: zs, b, h, k, x, hx, hr => by
    cases k with
    | zero =>
      simp at hx
      subst hx
      refine ⟨fun hb => ?_, fun f y hf => by omega⟩
      simp [lateOk, hr, hb] at h
    | succ k =>
      have hx' : zs[k]? = some x := by simpa using hx
      have lift : ∀ b', lateOk b' zs = true → (b' = true → ∃ (c : Nat) (y : DRow), c < k + 1 ∧ 0 < c ∧ (z :: zs)[c]? = some y ∧ y.kind = .chain) ∧
          ∀ (f : Nat) (y : DRow), f < k + 1 → 0 < f → (z :: zs)[f]? = some y → y.kind = .fresh → ∃ (c : Nat) (z' : DRow), f < c ∧ c < k + 1 ∧ (z :: zs)[c]? = some z' ∧ z'.kind = .chain := by
        intro b' hb'
        obtain ⟨g1, g2⟩ := lateOk_spec zs b' hb' k x hx' hr
        refine ⟨fun hb => ?_, fun f y hf h0 hy hk => ?_⟩
        · obtain ⟨c, y, h1, h2, h3⟩ := g1 hb
          exact ⟨c + 1, y, by omega, by omega, by simpa using h2, h3⟩
        · cases f with
          | zero => omega
          | succ f =>
            obtain ⟨c, z', h1, h2, h3, h4⟩ := g2 f y (by omega) (by simpa using hy) hk
            exact ⟨c + 1, z', by omega, by omega, by simpa using h3, h4⟩
      cases hk : z.kind with
      | chain =>
        simp only [lateOk, hk] at h
        obtain ⟨g1, g2⟩ := lift _ h
        refine ⟨fun _ => ⟨0, z, by omega, by simp, hk⟩, fun f y hf hy hyk => ?_⟩
        cases f with
        | zero => simp at hy; subst hy; rw [hk] at hyk; cases hyk
        | succ f => exact g2 (f + 1) y hf (by omega) hy hyk
      | fresh =>
        simp only [lateOk, hk] at h
        obtain ⟨g1, g2⟩ := lift _ h
        refine ⟨fun _ => ?_, fun f y hf hy hyk => ?_⟩
        · obtain ⟨c, y, h1, _, h3⟩ := g1 rfl
          exact ⟨c, y, h1, h3⟩
        · cases f with
          | zero =>
            obtain ⟨c, y, h1, h2, h3, h4⟩ := g1 rfl
            exact ⟨c, y, h2, h1, h3, h4⟩
          | succ f => exact g2 (f + 1) y hf (by omega) hy hyk
      | read =>
        simp only [lateOk, hk, Bool.and_eq_true] at h
        obtain ⟨g1, g2⟩ := lift _ h.2
        refine ⟨fun hb => ?_, fun f y hf hy hyk => ?_⟩
        · obtain ⟨c, y, h1, _, h3⟩ := g1 hb
          exact ⟨c, y, h1, h3⟩
        · cases f with
          | zero => simp at hy; subst hy; rw [hk] at hyk; cases hyk
          | succ f => exact g2 (f + 1) y hf (by omega) hy hyk
      | pure =>
        simp only [lateOk, hk] at h
        obtain ⟨g1, g2⟩ := lift _ h
        refine ⟨fun hb => ?_, fun f y hf hy hyk => ?_⟩
        · obtain ⟨c, y, h1, _, h3⟩ := g1 hb
          exact ⟨c, y, h1, h3⟩
        · cases f with
          | zero => simp at hy; subst hy; rw [hk] at hyk; cases hyk
          | succ f => exact g2 (f + 1) y hf (by omega) hy hyk

theorem edgeMask_spec (b : Array Nat) (j : Nat) : ∀ (es : List Edge), (edgeMask b es).testBit j = true → ∃ e ∈ es, Region.binds .any e = true ∧ (e.on = j ∨ (b.getD e.on 0).testBit j = true)
  | [], h => by simp [edgeMask] at h
  | e :: es, h => by
    unfold edgeMask at h
    split at h
    · rename_i hb
      rw [Nat.testBit_or, Nat.testBit_or, Nat.testBit_two_pow] at h
      simp only [Bool.or_eq_true, decide_eq_true_eq] at h
      rcases h with (h | h) | h
      · exact ⟨e, by simp, hb, .inl h⟩
      · exact ⟨e, by simp, hb, .inr h⟩
      · obtain ⟨e', h1, h2⟩ := edgeMask_spec b j es h
        exact ⟨e', by simp [h1], h2⟩
    · obtain ⟨e', h1, h2⟩ := edgeMask_spec b j es h
      exact ⟨e', by simp [h1], h2⟩

theorem edgesOk_spec (b : Array Nat) : ∀ (os : List Oper) (i : Nat), edgesOk b i os = true → ∀ (k : Nat) (o : Oper), os[k]? = some o → b.getD (i + k) 0 = edgeMask b o.after.toList ∧ ∀ e ∈ o.after, Region.binds .any e = true → e.on < i + k
  | [], _, _, k, o, h => by simp at h
  | x :: xs, i, h, k, o, hk => by
    simp only [edgesOk, Bool.and_eq_true, beq_iff_eq, List.all_eq_true, Bool.or_eq_true, Bool.not_eq_true', decide_eq_true_eq] at h
    obtain ⟨⟨h1, h2⟩, h3⟩ := h
    cases k with
    | zero =>
      simp at hk
      subst hk
      refine ⟨h1, fun e he hb => ?_⟩
      rcases h2 e (by simpa using he) with h | h
      · rw [hb] at h; cases h
      · exact h
    | succ k =>
      obtain ⟨g1, g2⟩ := edgesOk_spec b xs (i + 1) h3 k o (by simpa using hk)
      rw [show i + (k + 1) = i + 1 + k by omega]
      exact ⟨g1, g2⟩

/-- The check gives a listed region. -/
theorem drawn_reg (hits : mapO (compItem P n ops) ops.toList = some items) (h : drawnCheck ops items before order = true) :
    ∃ R : Reg P n ops, R.N = order.length ∧ (∀ k, k < R.N → order[k]? = some (R.ix k) ∧ items[R.ix k]? = some (R.it k)) ∧ (∀ j k, R.bef j k ↔ (before.getD (R.ix k) 0).testBit (R.ix j) = true) ∧
      ∀ it ∈ items, noDefer it.op = true := by
  unfold drawnCheck at h
  cases hrows : mapO (rowOf ops items before) order with
  | none => rw [hrows] at h; cases h
  | some rows =>
    rw [hrows] at h
    simp only [Bool.and_eq_true, List.all_eq_true, List.mem_range] at h
    obtain ⟨⟨⟨⟨hp, hl⟩, he⟩, hs⟩, hd⟩ := h
    obtain ⟨hself, hpair⟩ := pairsOk_spec rows hp
    obtain ⟨hlen, hrow⟩ := mapO_some _ _ _ hrows
    obtain ⟨hilen, hitem⟩ := mapO_some _ _ _ hits
    -- what lies at a position
    have at_ : ∀ (k : Nat), k < order.length → ∃ (i : Nat) (o : Oper) (it : Item), order[k]? = some i ∧ ops[i]? = some o ∧ items[i]? = some it ∧ compItem P n ops o = some it ∧
        rows[k]? = some { i := i, kind := sortOf it.op, dst := it.dst, looks := looksOf ops o it, bef := before.getD i 0 } := by
      intro k hk
      have h1 : order[k]? = some order[k] := by simp [hk]
      obtain ⟨r, h2, h3⟩ := hrow k _ h1
      obtain ⟨o, it, h4, h5, rfl⟩ := rowOf_some h2
      obtain ⟨it', h6, h7⟩ := hitem order[k] o (by simpa using h4)
      rw [h5] at h7
      cases h7
      exact ⟨_, o, it, h1, h4, h5, h6, h3⟩
    let ix : Nat → Nat := fun k => order.getD k 0
    let o : Nat → Oper := fun k => (ops[ix k]?).getD default
    let it : Nat → Item := fun k => (items[ix k]?).getD ⟨none, .bad, none⟩
    have at1 : ∀ k, k < order.length → order[k]? = some (ix k) ∧ ops[ix k]? = some (o k) ∧ items[ix k]? = some (it k) ∧ compItem P n ops (o k) = some (it k) ∧
        rows[k]? = some { i := ix k, kind := sortOf (it k).op, dst := (it k).dst, looks := looksOf ops (o k) (it k), bef := before.getD (ix k) 0 } := by
      intro k hk
      obtain ⟨i, o', it', h1, h2, h3, h4, h5⟩ := at_ k hk
      have e1 : ix k = i := by show order.getD k 0 = i; simp [h1]
      have e2 : o k = o' := by show (ops[ix k]?).getD default = o'; rw [e1, h2]; rfl
      have e3 : it k = it' := by show (items[ix k]?).getD _ = it'; rw [e1, h3]; rfl
      rw [e1, e2, e3]
      exact ⟨h1, h2, h3, h4, h5⟩
    have pair : ∀ j k, j < k → k < order.length → pairOk { i := ix j, kind := sortOf (it j).op, dst := (it j).dst, looks := looksOf ops (o j) (it j), bef := before.getD (ix j) 0 }
        { i := ix k, kind := sortOf (it k).op, dst := (it k).dst, looks := looksOf ops (o k) (it k), bef := before.getD (ix k) 0 } = true :=
      fun j k hjk hk => hpair j k _ _ hjk (at1 j (by omega)).2.2.2.2 (at1 k hk).2.2.2.2
    have self : ∀ k, k < order.length → selfOk { i := ix k, kind := sortOf (it k).op, dst := (it k).dst, looks := looksOf ops (o k) (it k), bef := before.getD (ix k) 0 } = true :=
      fun k hk => hself k _ (at1 k hk).2.2.2.2
    have hedge := edgesOk_spec before ops.toList 0 he
    have surj : ∀ i, i < ops.size → ∃ k, k < order.length ∧ ix k = i := by
      intro i hi
      have := hs i hi
      obtain ⟨k, hk, e⟩ := List.getElem_of_mem (show i ∈ order by simpa using this)
      exact ⟨k, hk, by show order.getD k 0 = i; simp [hk, e]⟩
    refine ⟨⟨order.length, ix, o, it, fun j k => (before.getD (ix k) 0).testBit (ix j) = true, fun k => looksOf ops (o k) (it k),
      fun k hk => (at1 k hk).2.1, fun k hk => (at1 k hk).2.2.2.1, surj, ?_, ?_, ?_, ?_, ?_, ?_, ?_, ?_, ?_, ?_, ?_, ?_, ?_, ?_⟩, rfl, fun k hk => ⟨(at1 k hk).1, (at1 k hk).2.2.1⟩, fun _ _ => Iff.rfl, hd⟩
    · intro j k hjk hk e
      have := pair j k hjk hk
      simp [pairOk, e] at this
    · intro j k hjk hk d h1 h2
      have := pair j k hjk hk
      simp [pairOk, h1, h2, dstSame] at this
    · intro j k hjk hk h1
      have := pair j k hjk hk
      simp only [pairOk, h1, Bool.not_true, Bool.and_false, Bool.false_and] at this
      cases this
    · intro j k hjk hk h1 h2
      have := pair j k hjk hk
      simp only [pairOk, Bool.and_eq_true, Bool.or_eq_true] at this
      rcases this.2 with h | h
      · exact h
      · rcases h2 with h2 | h2 <;> simp [h1, h2] at h
    · intro j k hjk hk h1 h2
      have := pair j k hjk hk
      simp only [pairOk, Bool.and_eq_true, Bool.or_eq_true] at this
      rcases this.2 with h | h
      · exact h
      · simp [h1, h2] at h
    · intro j k hjk hk d h1 h2
      have := pair j k hjk hk
      simp only [pairOk, Bool.and_eq_true, Bool.or_eq_true] at this
      rcases this.2 with h | h
      · exact h
      · have hc : dstIn (some d) (looksOf ops (o k) (it k)) = true := by simpa [dstIn] using h2
        simp [h1, hc] at h
    · intro j k hjk hk d h1 h2
      have hc : dstIn (some d) (looksOf ops (o j) (it j)) = true := by simpa [dstIn] using h2
      by_cases e : j = k
      · subst e
        have := self j hk
        simp [selfOk, h1, hc] at this
      · have := pair j k (by omega) hk
        simp [pairOk, h1, hc] at this
    · intro k hk t ht
      have := self k hk
      simp only [selfOk, Bool.and_eq_true, List.all_eq_true] at this
      exact Nat.le_of_ble_eq_true (this.2 t ht)
    · intro k hk e he' hb
      have := (hedge (ix k) (o k) (by simpa using (at1 k hk).2.1)).2 e he' hb
      omega
    · intro j k hj hk hb
      obtain ⟨g1, g2⟩ := hedge (ix k) (o k) (by simpa using (at1 k hk).2.1)
      rw [Nat.zero_add] at g1 g2
      rw [g1] at hb
      obtain ⟨e, h1, h2, h3⟩ := edgeMask_spec before (ix j) _ hb
      have h1' : e ∈ (o k).after := by simpa using h1
      refine ⟨e, h1', h2, ?_⟩
      rcases h3 with h3 | h3
      · exact .inl h3
      · right
        have hlt : e.on < ops.size := by
          have := g2 e h1' h2
          have := (Array.getElem?_eq_some_iff.1 (at1 k hk).2.1).1
          omega
        obtain ⟨m, hm, hme⟩ := surj e.on hlt
        exact ⟨m, hm, hme, by rw [hme]; exact h3⟩
    · intro k hk t ht
      exact List.mem_append_left _ (List.mem_append_left _ ht)
    · intro k hk t ht
      refine List.mem_append_left _ (List.mem_append_right _ ?_)
      exact List.mem_filterMap.2 ⟨.tmp t, ht, rfl⟩
    · intro k hk t b ht
      refine List.mem_append_right _ ?_
      rw [ht]
      simp
    · intro k hk h1 f hf h2
      obtain ⟨_, g⟩ := lateOk_spec rows false hl k _ (at1 k hk).2.2.2.2 h1
      obtain ⟨c, z, c1, c2, c3, c4⟩ := g f _ hf (at1 f (by omega)).2.2.2.2 h2
      rw [(at1 c (by omega)).2.2.2.2] at c3
      cases c3
      exact ⟨c, c1, c2, c4⟩

theorem putT_full {ts : Tmps} (hf : ts.full 4) (dst : Option Nat) (v : AVal) : (putT dst v ts).full 4 := by
  cases dst with
  | none => exact hf
  | some d => exact setTmp_full hf d v

/-- The steps' trace gives a run. -/
theorem run_of_trace {R : Reg P n ops} {call : CallFn} {H : Nat → Heap} {T : Nat → Tmps} {V : Nat → AVal} (h0 : (T 0).full 4)
    (hst : ∀ k, k < R.N → StepOk call (R.it k) (T k) (H k) (V k) (H (k + 1)) (T (k + 1)))
    (hre : ∀ j k, j < k → k < R.N → sortOf (R.it k).op = .chain → sortOf (R.it j).op = .read → ¬ R.bef j k → ReOk (R.it j) (T (k + 1)) (H (k + 1))) : Run R call (T 0) H V (T R.N) := by
  have dlt : ∀ k, k < R.N → ∀ d, (R.it k).dst = some d → d < 256 := by
    intro k hk d hd
    obtain ⟨_, h2, _, h4⟩ := compItem_some (R.hi k hk)
    exact (h4 d (by rw [← h2]; exact hd)).2
  have full : ∀ k, k ≤ R.N → (T k).full 4 := by
    intro k
    induction k with
    | zero => intro _; exact h0
    | succ k ih =>
      intro hk
      rw [(hst k (by omega)).1]
      exact putT_full (ih (by omega)) _ _
  have keep : ∀ t, t < 256 → ∀ k m, k ≤ m → m ≤ R.N → (∀ j, k ≤ j → j < m → (R.it j).dst ≠ some t) → tmpOf (T m) t = tmpOf (T k) t := by
    intro t ht k m
    induction m with
    | zero => intro h _ _; rw [show k = 0 by omega]
    | succ m ih =>
      intro h1 h2 h3
      by_cases e : k = m + 1
      · rw [e]
      · rw [← ih (by omega) (by omega) (fun j g1 g2 => h3 j g1 (by omega)), (hst m (by omega)).1]
        have hne := h3 m (by omega) (by omega)
        cases hd : (R.it m).dst with
        | none => rfl
        | some d =>
          show tmpOf (setTmp (T m) d (V m)) t = _
          rw [tmpOf_setTmp (full m (by omega)) (dlt m (by omega) d hd) ht, if_neg (fun e' => hne (by rw [hd, e']))]
  have fin : ∀ k, k < R.N → ∀ d, (R.it k).dst = some d → ∀ m, k < m → m ≤ R.N → tmpOf (T m) d = V k := by
    intro k hk d hd m h1 h2
    rw [keep d (dlt k hk d hd) (k + 1) m (by omega) h2 (fun j g1 g2 => R.dst k j (by omega) (by omega) d hd), (hst k hk).1, hd]
    show tmpOf (setTmp (T k) d (V k)) d = V k
    rw [tmpOf_setTmp (full k (by omega)) (dlt k hk d hd) (dlt k hk d hd), if_pos rfl]
  have look : ∀ j, j < R.N → ∀ t ∈ R.looks j, ∀ m, j ≤ m → m ≤ R.N → tmpOf (T m) t = tmpOf (T R.N) t := by
    intro j hj t ht m h1 h2
    exact (keep t (R.look256 j hj t ht) m R.N h2 (Nat.le_refl _) (fun i g1 g2 e => R.look2 j i (by omega) g2 t e ht)).symm
  have wnt : ∀ j, j < R.N → ∀ m, j ≤ m → m ≤ R.N → wantedA (R.it j).guard (T m) = wantedA (R.it j).guard (T R.N) := by
    intro j hj m h1 h2
    cases hg : (R.it j).guard with
    | none => rfl
    | some g =>
      obtain ⟨t, b⟩ := g
      simp only [wantedA]
      rw [look j hj t (R.looksG j hj t b hg) m h1 h2]
  have evc : ∀ j, j < R.N → ∀ m, j ≤ m → m ≤ R.N → ∀ (c : CallFn) (σ : Heap), evOp (R.it j).op c (T m) σ = evOp (R.it j).op c (T R.N) σ := by
    intro j hj m h1 h2 c σ
    refine evOp_congr _ c σ fun x hx => ?_
    cases x with
    | tmp t => exact look j hj t (R.looksA j hj t hx) m h1 h2
    | const v => rfl
  refine ⟨?_, ?_, ?_, ?_, full _ (Nat.le_refl _)⟩
  · intro k hk
    obtain ⟨_, h⟩ := hst k hk
    rw [wnt k hk k (Nat.le_refl _) (by omega), evc k hk k (Nat.le_refl _) (by omega)] at h
    exact h
  · intro j k hjk hk hc hr hb hw
    have hj : j < R.N := by omega
    rcases hre j k hjk hk hc hr hb with h | ⟨d, σ', h1, h2⟩
    · rw [wnt j hj (k + 1) (by omega) (by omega), hw] at h
      cases h
    · refine ⟨σ', ?_⟩
      have h2' : evOp (R.it j).op noCall (T (k + 1)) (H (k + 1)) = .val (tmpOf (T (k + 1)) d) σ' := h2
      rw [evc j hj (k + 1) (by omega) (by omega), fin j hj d h1 (k + 1) (by omega) (by omega)] at h2'
      exact h2'
  · intro k hk d hd
    exact fin k hk d hd R.N hk (Nat.le_refl _)
  · intro t ht hno
    exact keep t ht 0 R.N (by omega) (Nat.le_refl _) (fun j _ hj => hno j hj)

/-- Regions that draw their order do what their steps say. -/
theorem drawnOk (hm : P.follows .mixedOrders = true) {call : CallFn} (hcall : CallOk P call) (hn : NextOk call) (n : Nat) : DrawnOk P n call := by
  intro ops l hl Q t μ σ w aa a r hg f hs
  unfold compDrawn at hl
  cases hits : mapO (compItem P n ops) ops.toList with
  | none => rw [hits] at hl; cases hl
  | some items =>
    rw [hits] at hl
    dsimp only at hl
    split at hl
    · rename_i hchk
      cases hl
      obtain ⟨R, hN, hix, hbef, hnd⟩ := drawn_reg hits hchk
      have hdef : ∀ f args σ f' args' σ', call f args σ ≠ .defr f' args' σ' := by
        intro f args σ f' args' σ' h
        have := hcall f args σ
        rw [h] at this
        exact this
      have hord : ∀ (k i : Nat), (orderOf (Region.before ops) (items.zipIdx.map fun x => (x.2, sortOf x.1.op)) items.length 0)[k]? = some i → k < R.N ∧ i = R.ix k := by
        intro k i hk
        have hlt : k < R.N := by rw [hN]; exact (List.getElem?_eq_some_iff.1 hk).1
        have := (hix k hlt).1
        rw [hk] at this
        exact ⟨hlt, by simpa using this⟩
      obtain ⟨H, T, V, e0, t0, hS, hrest⟩ := trace hdef (S := fun res => Sat n μ σ w res Q) (fun h => h) (fun v a σ h => h) (Region.before ops) items _ hnd _ [] aa σ (by
        intro i hi
        obtain ⟨k, hk, e⟩ := List.getElem_of_mem hi
        obtain ⟨h1, h2⟩ := hord k i (by rw [← e]; simp [hk])
        exact ⟨R.it k, by rw [h2]; exact (hix k h1).2⟩) hs
      rw [← hN] at hS
      have T' : Run R call (T 0) H V (T R.N) := by
        refine run_of_trace (by rw [t0]; exact f.full) ?_ ?_
        · intro k hk
          exact (hrest k (R.ix k) (hix k hk).1 (R.it k) (hix k hk).2).1
        · intro j k hjk hk hc hr hb
          refine (hrest k (R.ix k) (hix k hk).1 (R.it k) (hix k hk).2).2 hc (R.ix j) ?_ (R.it j) (hix j (by omega)).2 hr ?_
          · rw [List.nil_append]
            refine List.mem_of_getElem? (i := j) ?_
            rw [List.getElem?_take, if_pos hjk]
            exact (hix j (by omega)).1
          · rw [hbef] at hb
            simpa using hb
      show wpOps P ops Q (Region.schedule (P.follows .mixedOrders) ops t) a { w with drawn := w.drawn + 1 }
      simp only [Region.schedule, hm, Bool.true_or, if_true]
      refine wpAny_sound ops.size t _ a _ ?_
      have hcut : cut μ (H 0).next = μ := by
        rw [e0]
        exact (map_same r rfl (fun _ _ => rfl)).symm
      refine Inv.any hcall hn hg T' (μ0 := μ) (σ0 := σ) (w0 := w) (ds := aa.defers) hS ops.size _ a _ 0 μ ?_ ?_
      · refine { lsize := by simp, clo := ?_, qle := Nat.zero_le _, qc := .inl rfl, qn := ?_, rel := ?_, ext := ?_, pend := ?_, pinj := ?_, none := ?_, size := f.size, old := ?_, vals := ?_, defers := f.defers }
        · intro k _ hd
          simp [Dn, Array.getD] at hd
        · intro k _ _ _ hd
          simp [Dn, Array.getD] at hd
        · rw [hcut, e0]
          exact r.heapEq rfl
        · rw [hcut, e0]
          exact Ext.drawn μ σ w _
        · intro k _ _ hd
          simp [Dn, Array.getD] at hd
        · intro j k _ _ _ hd
          simp [Dn, Array.getD] at hd
        · intro b hb _
          rw [e0] at hb
          exact r.fresh b hb
        · intro t ht hno
          rw [T'.oldV t ht hno, t0]
          exact f.tmps t ht
        · intro k _ hd
          simp [Dn, Array.getD] at hd
      · unfold nDone
        simp [List.count_replicate]
    · cases hl

/-- What the evaluator says of calls holds of them. -/
theorem evCall_ok (hm : P.follows .mixedOrders = true) {tbl : FuncId → Option AFunc} (htbl : TblOk P tbl) (rounds m : Nat) : CallOk P (evCall tbl rounds m) :=
  callSound htbl (fun _ hc hn n => drawnOk hm hc hn n) rounds m

end
end Go.Ab
