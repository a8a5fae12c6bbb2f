/- Regions that draw their order: what holds in the midst of any order. -/
import Derived.Test.YtgiebkbbnjnplaaGreatDoorAbDraw3
namespace Go.Ab

/-- A region whose operations have been listed in one order; by their positions in it. -/
structure Reg (P : Program) (n : Nat) (ops : Array Oper) where
  N : Nat
  ix : Nat → Nat
  o : Nat → Oper
  it : Nat → Item
  bef : Nat → Nat → Prop
  looks : Nat → List Nat
  ho : ∀ k, k < N → ops[ix k]? = some (o k)
  hi : ∀ k, k < N → compItem P n ops (o k) = some (it k)
  surj : ∀ i, i < ops.size → ∃ k, k < N ∧ ix k = i
  inj : ∀ j k, j < k → k < N → ix j ≠ ix k
  dst : ∀ j k, j < k → k < N → ∀ d, (it j).dst = some d → (it k).dst ≠ some d
  ord : ∀ j k, j < k → k < N → ¬ bef k j
  chainc : ∀ j k, j < k → k < N → sortOf (it k).op = .chain → (sortOf (it j).op = .chain ∨ sortOf (it j).op = .fresh) → bef j k
  chainr : ∀ j k, j < k → k < N → sortOf (it k).op = .read → sortOf (it j).op = .chain → bef j k
  look1 : ∀ j k, j < k → k < N → ∀ d, (it j).dst = some d → d ∈ looks k → bef j k
  look2 : ∀ j k, j ≤ k → k < N → ∀ d, (it k).dst = some d → d ∉ looks j
  look256 : ∀ k, k < N → ∀ t, t ∈ looks k → t < 256
  edges : ∀ k, k < N → ∀ e ∈ (o k).after, Region.binds .any e = true → e.on < ix k
  clo : ∀ j k, j < N → k < N → bef j k → ∃ e ∈ (o k).after, Region.binds .any e = true ∧ (e.on = ix j ∨ ∃ m, m < N ∧ ix m = e.on ∧ bef j m)
  looksC : ∀ k, k < N → ∀ t ∈ (o k).looksAt ops, t ∈ looks k
  looksA : ∀ k, k < N → ∀ t, Opd.tmp t ∈ (it k).op.opds → t ∈ looks k
  looksG : ∀ k, k < N → ∀ t b, (it k).guard = some (t, b) → t ∈ looks k
  late : ∀ k, k < N → sortOf (it k).op = .read → ∀ f, f < k → sortOf (it f).op = .fresh → ∃ c, f < c ∧ c < k ∧ sortOf (it c).op = .chain

/-- What the steps of the listed order say, with the temporaries that they end with. -/
structure Run {P : Program} {n : Nat} {ops : Array Oper} (R : Reg P n ops) (call : CallFn) (ts0 : Tmps) (H : Nat → Heap) (V : Nat → AVal) (tsF : Tmps) : Prop where
  ev : ∀ k, k < R.N → (wantedA (R.it k).guard tsF = false ∧ V k = .undef ∧ H (k + 1) = H k) ∨ (wantedA (R.it k).guard tsF = true ∧ evOp (R.it k).op call tsF (H k) = .val (V k) (H (k + 1)))
  re : ∀ j k, j < k → k < R.N → sortOf (R.it k).op = .chain → sortOf (R.it j).op = .read → ¬ R.bef j k → wantedA (R.it j).guard tsF = true → ∃ σ', evOp (R.it j).op noCall tsF (H (k + 1)) = .val (V j) σ'
  dstV : ∀ k, k < R.N → ∀ d, (R.it k).dst = some d → tmpOf tsF d = V k
  oldV : ∀ t, t < 256 → (∀ k, k < R.N → (R.it k).dst ≠ some t) → tmpOf tsF t = tmpOf ts0 t
  full : tsF.full 4

section
variable {P : Program} {n : Nat} {ops : Array Oper} {R : Reg P n ops} {call : CallFn} {ts0 tsF : Tmps} {H : Nat → Heap} {V : Nat → AVal}

theorem Run.next1 (hn : NextOk call) (T : Run R call ts0 H V tsF) {k : Nat} (hk : k < R.N) : (H k).next ≤ (H (k + 1)).next := by
  rcases T.ev k hk with ⟨_, _, e⟩ | ⟨_, e⟩
  · rw [e]; exact Nat.le_refl _
  · exact evOp_next hn e

theorem Run.nextMono (hn : NextOk call) (T : Run R call ts0 H V tsF) {j : Nat} : ∀ {k : Nat}, j ≤ k → k ≤ R.N → (H j).next ≤ (H k).next := by
  intro k
  induction k with
  | zero =>
    intro h _
    have : j = 0 := by omega
    subst this
    exact Nat.le_refl _
  | succ k ih =>
    intro h hk
    by_cases e : j = k + 1
    · subst e; exact Nat.le_refl _
    · exact Nat.le_trans (ih (by omega) (by omega)) (T.next1 hn (by omega))

/-- Positions whose blocks are made, and are to be named. -/
def Makes (R : Reg P n ops) (tsF : Tmps) (k : Nat) : Prop := sortOf (R.it k).op = .fresh ∧ wantedA (R.it k).guard tsF = true

theorem Run.makes (T : Run R call ts0 H V tsF) {k : Nat} (hk : k < R.N) (h : Makes R tsF k) :
    ∃ ob, H (k + 1) = (H k).new ob ∧ ∀ t, evOp (R.it k).op call tsF ⟨(H k).next, t⟩ = .val (V k) (Heap.new ⟨(H k).next, t⟩ ob) := by
  rcases T.ev k hk with ⟨e, _⟩ | ⟨_, e⟩
  · rw [h.2] at e; cases e
  · exact freshShape h.1 e

/-- What neither changes memory nor makes any leaves the heap. -/
theorem Run.stays (T : Run R call ts0 H V tsF) {k : Nat} (hk : k < R.N) (hc : sortOf (R.it k).op ≠ .chain) (hm : ¬ Makes R tsF k) : H (k + 1) = H k := by
  rcases T.ev k hk with ⟨_, _, e⟩ | ⟨hw, e⟩
  · exact e
  · cases hs : sortOf (R.it k).op with
    | pure => exact (pureShape hs e).1
    | read => exact readShape hs e
    | fresh => exact absurd ⟨hs, hw⟩ hm
    | chain => exact absurd hs hc

/-- Listed already. -/
def Dn (R : Reg P n ops) (listed : Array Bool) (k : Nat) : Prop := listed.getD (R.ix k) false = true

/-- The midst of an order: the changes of memory up to a position are done, and all that is named before it is named. -/
structure Inv (R : Reg P n ops) (H : Nat → Heap) (V : Nat → AVal) (tsF : Tmps) (μ0 : Mu) (σ0 : Heap) (w0 : World) (ds : List (FuncId × List AVal)) (listed : Array Bool) (a : Act) (w : World) (q : Nat) (ν : Mu) : Prop where
  lsize : listed.size = ops.size
  clo : ∀ k, k < R.N → Dn R listed k → ∀ j, j < R.N → R.bef j k → Dn R listed j
  qle : q ≤ R.N
  qc : q = 0 ∨ ∃ p, q = p + 1 ∧ sortOf (R.it p).op = .chain ∧ Dn R listed p
  qn : ∀ k, q ≤ k → k < R.N → sortOf (R.it k).op = .chain → ¬ Dn R listed k
  rel : Rel (cut ν (H q).next) (H q) w
  ext : Ext μ0 σ0 w0 (cut ν (H q).next) (H q) w
  pend : ∀ k, q ≤ k → k < R.N → Dn R listed k → Makes R tsF k → ∃ m ob, ν (H k).next = some m ∧ H (k + 1) = (H k).new ob ∧ ORel (cut ν ((H k).next + 1)) w m ob ∧ w0.heap.size ≤ m.p ∧
    ∀ b o' m', (H q).get b = some o' → cut ν (H q).next b = some m' → m'.p ≠ m.p
  pinj : ∀ j k, q ≤ j → j < k → k < R.N → Dn R listed j → Makes R tsF j → Dn R listed k → Makes R tsF k → ∀ m m', ν (H j).next = some m → ν (H k).next = some m' → m.p ≠ m'.p
  none : ∀ b, (H q).next ≤ b → (∀ k, q ≤ k → k < R.N → Dn R listed k → Makes R tsF k → b ≠ (H k).next) → ν b = none
  size : n ≤ a.tmps.size
  old : ∀ t, t < 256 → (∀ k, k < R.N → (R.it k).dst ≠ some t) → VRel μ0 (tmpOf tsF t) (a.tmps.getD t undef)
  vals : ∀ k, k < R.N → Dn R listed k → ∀ d, (R.it k).dst = some d → VRel (cut ν (max (H (k + 1)).next (H q).next)) (V k) (a.tmps.getD d undef)
  defers : DRel μ0 ds a.defers

variable {μ0 : Mu} {σ0 : Heap} {w0 : World} {ds : List (FuncId × List AVal)} {listed : Array Bool} {a : Act} {w : World} {q : Nat} {ν : Mu}

/-- Named up to a position. -/
structure UpTo (R : Reg P n ops) (H : Nat → Heap) (tsF : Tmps) (μ0 : Mu) (σ0 : Heap) (w0 : World) (listed : Array Bool) (w : World) (ν : Mu) (p : Nat) : Prop where
  rel : Rel (cut ν (H p).next) (H p) w
  ext : Ext μ0 σ0 w0 (cut ν (H p).next) (H p) w
  pend : ∀ k, p ≤ k → k < R.N → Dn R listed k → Makes R tsF k → ∃ m ob, ν (H k).next = some m ∧ H (k + 1) = (H k).new ob ∧ ORel (cut ν ((H k).next + 1)) w m ob ∧ w0.heap.size ≤ m.p ∧
    ∀ b o' m', (H p).get b = some o' → cut ν (H p).next b = some m' → m'.p ≠ m.p

theorem Inv.upTo (T : Run R call ts0 H V tsF) (I : Inv R H V tsF μ0 σ0 w0 ds listed a w q ν) : ∀ (p : Nat), q ≤ p → p ≤ R.N →
    (∀ k, q ≤ k → k < p → sortOf (R.it k).op ≠ .chain) → (∀ k, q ≤ k → k < p → Makes R tsF k → Dn R listed k) → UpTo R H tsF μ0 σ0 w0 listed w ν p := by
  intro p
  induction p with
  | zero =>
    intro hq _ _ _
    have : q = 0 := by omega
    subst this
    exact ⟨I.rel, I.ext, I.pend⟩
  | succ p ih =>
    intro hq hp hc hm
    by_cases e : q = p + 1
    · subst e; exact ⟨I.rel, I.ext, I.pend⟩
    · have U := ih (by omega) (by omega) (fun k h1 h2 => hc k h1 (by omega)) (fun k h1 h2 => hm k h1 (by omega))
      have hpN : p < R.N := by omega
      by_cases hmk : Makes R tsF p
      · obtain ⟨m, ob, hν, hH, ho, hw0, hni⟩ := U.pend p (Nat.le_refl _) hpN (hm p (by omega) (by omega) hmk) hmk
        have hcut : cut ν ((H p).next + 1) = (cut ν (H p).next).put (H p).next m := cut_succ hν
        have hnext : (H (p + 1)).next = (H p).next + 1 := by rw [hH]; rfl
        refine ⟨?_, ?_, ?_⟩
        · rw [hnext, hcut, hH]
          exact U.rel.adopt hni (by rw [← hcut]; exact ho)
        · rw [hnext, hcut, hH]
          exact U.ext.adopt U.rel hw0
        · intro k h1 h2 h3 h4
          obtain ⟨m2, ob2, g1, g2, g3, g4, g5⟩ := U.pend k (by omega) h2 h3 h4
          refine ⟨m2, ob2, g1, g2, g3, g4, ?_⟩
          intro b o' m' hb hm'
          rw [hH, Heap.get_new] at hb
          by_cases eb : b = (H p).next
          · subst eb
            rw [hnext, cut_lt (by omega), hν] at hm'
            cases hm'
            exact I.pinj p k (by omega) (by omega) h2 (hm p (by omega) (by omega) hmk) hmk h3 h4 m m2 hν g1
          · rw [if_neg eb] at hb
            refine g5 b o' m' hb ?_
            rw [hnext, hcut] at hm'
            unfold Mu.put at hm'
            rwa [if_neg eb] at hm'
      · have hst := T.stays hpN (hc p (by omega) (by omega)) hmk
        refine ⟨by rw [hst]; exact U.rel, by rw [hst]; exact U.ext, fun k h1 h2 h3 h4 => ?_⟩
        obtain ⟨m2, ob2, g1, g2, g3, g4, g5⟩ := U.pend k (by omega) h2 h3 h4
        exact ⟨m2, ob2, g1, g2, g3, g4, by rw [hst]; exact g5⟩

/-- Another world in which the named blocks lie as before, and the others are as before. -/
theorem Inv.world (I : Inv R H V tsF μ0 σ0 w0 ds listed a w q ν) {w' : World} (r : Rel (cut ν (H q).next) (H q) w') (e : Ext (cut ν (H q).next) (H q) w (cut ν (H q).next) (H q) w') :
    Inv R H V tsF μ0 σ0 w0 ds listed a w' q ν := by
  refine { I with rel := r, ext := I.ext.trans e, pend := ?_ }
  intro k h1 h2 h3 h4
  obtain ⟨m, ob, g1, g2, g3, g4, g5⟩ := I.pend k h1 h2 h3 h4
  exact ⟨m, ob, g1, g2, g3.world (e.frame _ g3.lt g5), g4, g5⟩

theorem dn_set (I : Inv R H V tsF μ0 σ0 w0 ds listed a w q ν) {k : Nat} (hk : k < R.N) {j : Nat} (hj : j < R.N) : Dn R (listed.setIfInBounds (R.ix k) true) j ↔ (j = k ∨ Dn R listed j) := by
  unfold Dn
  by_cases e : j = k
  · subst e
    have hlt : R.ix j < listed.size := by rw [I.lsize]; exact (Array.getElem?_eq_some_iff.1 (R.ho j hj)).1
    simp [hlt]
  · have hne : R.ix k ≠ R.ix j := by
      rcases Nat.lt_or_ge j k with h | h
      · exact fun e' => R.inj j k h hk e'.symm
      · exact R.inj k j (by omega) hj
    rw [getD_set_ne false hne]
    simp [e]

/-- What is before a ready one is done. -/
theorem Inv.readyClo (I : Inv R H V tsF μ0 σ0 w0 ds listed a w q ν) {k : Nat} (hk : k < R.N) (hr : ∀ e ∈ (R.o k).after, Region.binds .any e = true → listed.getD e.on false = true) :
    ∀ j, j < R.N → R.bef j k → Dn R listed j := by
  intro j hj hb
  obtain ⟨e, he, hbd, h | ⟨m, hm, hme, hbm⟩⟩ := R.clo j k hj hk hb
  · have := hr e he hbd
    rw [h] at this
    exact this
  · refine I.clo m hm ?_ j hj hbm
    have := hr e he hbd
    rw [← hme] at this
    exact this

theorem put_getD (a : Act) (dst : Option Nat) (x : Value) (t : Nat) (hs : ∀ d, dst = some d → d < a.tmps.size) : (a.put dst x).tmps.getD t undef = if dst = some t then x else a.tmps.getD t undef := by
  cases dst with
  | none => simp [Act.put]
  | some d =>
    show (a.tmps.setIfInBounds d x).getD t undef = _
    have hd := hs d rfl
    by_cases e : d = t
    · subst e
      rw [if_pos rfl]
      simp [Array.getD, hd]
    · rw [if_neg (by simpa using e)]
      simp only [Array.getD_eq_getD_getElem?, Array.getElem?_setIfInBounds]
      rw [if_neg e]

/-- One more operation is done: what is left to show of the midst. -/
theorem Inv.finish (T : Run R call ts0 H V tsF) (hn : NextOk call) (I : Inv R H V tsF μ0 σ0 w0 ds listed a w q ν) {k : Nat} (hk : k < R.N) (hbef : ∀ j, j < R.N → R.bef j k → Dn R listed j)
    {w' : World} {q' : Nat} {ν' : Mu} {x : Value} (hqq : q ≤ q') (hνν : ν.le ν') (qle : q' ≤ R.N)
    (qc : q' = 0 ∨ ∃ p, q' = p + 1 ∧ sortOf (R.it p).op = .chain ∧ Dn R (listed.setIfInBounds (R.ix k) true) p)
    (qn : ∀ j, q' ≤ j → j < R.N → sortOf (R.it j).op = .chain → ¬ Dn R (listed.setIfInBounds (R.ix k) true) j)
    (rel : Rel (cut ν' (H q').next) (H q') w') (ext : Ext μ0 σ0 w0 (cut ν' (H q').next) (H q') w')
    (pend : ∀ j, q' ≤ j → j < R.N → (j = k ∨ Dn R listed j) → Makes R tsF j → ∃ m ob, ν' (H j).next = some m ∧ H (j + 1) = (H j).new ob ∧ ORel (cut ν' ((H j).next + 1)) w' m ob ∧ w0.heap.size ≤ m.p ∧
      ∀ b o' m', (H q').get b = some o' → cut ν' (H q').next b = some m' → m'.p ≠ m.p)
    (pinj : ∀ i j, q' ≤ i → i < j → j < R.N → (i = k ∨ Dn R listed i) → Makes R tsF i → (j = k ∨ Dn R listed j) → Makes R tsF j → ∀ m m', ν' (H i).next = some m → ν' (H j).next = some m' → m.p ≠ m'.p)
    (hnone : ∀ b, (H q').next ≤ b → (∀ j, q' ≤ j → j < R.N → (j = k ∨ Dn R listed j) → Makes R tsF j → b ≠ (H j).next) → ν' b = Option.none)
    (hv : VRel (cut ν' (max (H (k + 1)).next (H q').next)) (V k) x) :
    Inv R H V tsF μ0 σ0 w0 ds (listed.setIfInBounds (R.ix k) true) (a.put (R.o k).dst x) w' q' ν' := by
  obtain ⟨_, hdst, _, hdn⟩ := compItem_some (R.hi k hk)
  have hsz : ∀ d, (R.o k).dst = some d → d < a.tmps.size := fun d hd => Nat.lt_of_lt_of_le (hdn d hd).1 I.size
  refine { lsize := by simpa using I.lsize, clo := ?_, qle := qle, qc := qc, qn := qn, rel := rel, ext := ext, pend := ?_, pinj := ?_, none := ?_, size := ?_, old := ?_, vals := ?_, defers := ?_ }
  · intro j hj hdj i hi hb
    rw [dn_set I hk hi]
    rcases (dn_set I hk hj).1 hdj with rfl | h
    · exact .inr (hbef i hi hb)
    · exact .inr (I.clo j hj h i hi hb)
  · intro j h1 h2 h3 h4
    exact pend j h1 h2 ((dn_set I hk h2).1 h3) h4
  · intro i j h1 h2 h3 h4 h5 h6 h7
    exact pinj i j h1 h2 h3 ((dn_set I hk (by omega)).1 h4) h5 ((dn_set I hk h3).1 h6) h7
  · intro b hb h
    exact hnone b hb fun j h1 h2 h3 h4 => h j h1 h2 ((dn_set I hk h2).2 h3) h4
  · cases (R.o k).dst with
    | none => exact I.size
    | some d => show n ≤ (a.tmps.setIfInBounds d x).size; rw [Array.size_setIfInBounds]; exact I.size
  · intro t ht hno
    rw [put_getD a _ x t hsz, if_neg (by rw [← hdst]; exact hno k hk)]
    exact I.old t ht hno
  · intro j hj hdj d hd
    rw [put_getD a _ x d hsz]
    by_cases e : j = k
    · subst e
      rw [if_pos (by rw [← hdst]; exact hd)]
      exact hv
    · have hne : ¬ (R.o k).dst = some d := by
        rw [← hdst]
        intro h
        rcases Nat.lt_or_ge j k with hlt | hge
        · exact R.dst j k hlt hk d hd h
        · exact R.dst k j (by omega) hj d h hd
      rw [if_neg hne]
      have hd' := ((dn_set I hk hj).1 hdj).resolve_left e
      refine (I.vals j hj hd' d hd).mono ?_
      have := T.nextMono hn hqq qle
      exact (cut_of_le hνν _).trans (cut_mono (by omega))
  · cases (R.o k).dst <;> exact I.defers

end
end Go.Ab
