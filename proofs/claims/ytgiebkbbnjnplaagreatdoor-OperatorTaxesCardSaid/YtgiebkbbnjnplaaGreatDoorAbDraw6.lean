/- Regions that draw their order: any order does what the listed one says. -/
import Derived.Test.YtgiebkbbnjnplaaGreatDoorAbDraw5
namespace Go.Ab
section
variable {P : Program} {n : Nat} {ops : Array Oper} {R : Reg P n ops} {call : CallFn} {ts0 tsF : Tmps} {H : Nat → Heap} {V : Nat → AVal}
variable {μ0 : Mu} {σ0 : Heap} {w0 : World} {ds : List (FuncId × List AVal)} {listed : Array Bool} {a : Act} {w : World} {q : Nat} {ν : Mu}

theorem compOp_noSelect {o : Oper} {aop : AOp} (h : compOp P o = some aop) (cs : Array SelectCase) (b : Bool) : o.op ≠ .select cs b := by
  intro e
  unfold compOp at h
  rw [e] at h
  cases h

/-- What is wanted was compiled. -/
theorem Run.comp (T : Run R call ts0 H V tsF) {k : Nat} (hk : k < R.N) (hw : wantedA (R.it k).guard tsF = true) :
    evOp (R.it k).op call tsF (H k) = .val (V k) (H (k + 1)) ∧ compOp P (R.o k) = some (R.it k).op := by
  rcases T.ev k hk with ⟨e, _⟩ | ⟨_, e⟩
  · rw [hw] at e; cases e
  · refine ⟨e, ?_⟩
    obtain ⟨_, _, h3, _⟩ := compItem_some (R.hi k hk)
    cases hc : compOp P (R.o k) with
    | none =>
      rw [hc] at h3
      rw [h3] at e
      cases e
    | some aop =>
      rw [hc] at h3
      rw [h3]
      rfl

theorem Inv.step (hcall : CallOk P call) (hn : NextOk call) (hg : GRel P μ0) (T : Run R call ts0 H V tsF) (I : Inv R H V tsF μ0 σ0 w0 ds listed a w q ν) {k : Nat} (hk : k < R.N) (hkd : ¬ Dn R listed k)
    (hr : ∀ e ∈ (R.o k).after, Region.binds .any e = true → listed.getD e.on false = true) {K : Act → World → Prop} {Q : Exit → Act → World → Prop}
    (hK : ∀ a' w' q' ν', Inv R H V tsF μ0 σ0 w0 ds (listed.setIfInBounds (R.ix k) true) a' w' q' ν' → K a' w') : wpOp P ops Q (R.ix k) K a w := by
  have hbef := I.readyClo hk hr
  unfold wpOp
  rw [R.ho k hk]
  dsimp only
  rw [I.wanted T hn hk hbef]
  -- where a change or a making of memory lies
  have hqk : (sortOf (R.it k).op = .chain ∨ sortOf (R.it k).op = .fresh) → q ≤ k := by
    intro hs
    rcases Nat.lt_or_ge k q with hlt | h
    · exfalso
      rcases I.qc with h | ⟨p, h1, h2, h3⟩
      · omega
      · by_cases e : k = p
        · subst e; exact hkd h3
        · have hpN : p < R.N := by have := I.qle; omega
          exact hkd (I.clo p hpN h3 k hk (R.chainc k p (by omega) hpN h2 hs.symm.symm))
    · exact h
  have hupto : sortOf (R.it k).op = .chain → UpTo R H tsF μ0 σ0 w0 listed w ν k := by
    intro hc
    refine I.upTo T k (hqk (.inl hc)) (by omega) ?_ ?_
    · intro j h1 h2 h3
      exact I.qn j h1 (by omega) h3 (hbef j (by omega) (R.chainc j k h2 hk hc (.inl h3)))
    · intro j h1 h2 h3
      exact hbef j (by omega) (R.chainc j k h2 hk hc (.inr h3.1))
  cases hw : wantedA (R.it k).guard tsF with
  | false =>
    rw [if_neg (by simp)]
    have hun : V k = .undef ∧ H (k + 1) = H k := by
      rcases T.ev k hk with ⟨_, e1, e2⟩ | ⟨e, _⟩
      · exact ⟨e1, e2⟩
      · rw [hw] at e; cases e
    by_cases hc : sortOf (R.it k).op = .chain
    · have U := hupto hc
      obtain ⟨ν', I'⟩ := I.addChain T hn hk hbef hkd (hqk (.inl hc)) hc U (w' := w) (μ' := cut ν (H k).next) (x := undef) (by rw [hun.2]; exact U.rel) (by rw [hun.2]; exact .refl _ _ _) (by rw [hun.1]; exact VRel.undef _)
      exact hK _ _ _ _ I'
    · exact hK _ _ _ _ (I.addStay T hn hk hbef hc (fun h => by rw [h.2] at hw; cases hw) (x := undef) (by rw [hun.1]; exact VRel.undef _))
  | true =>
    rw [if_pos rfl]
    left
    obtain ⟨hev, hcomp⟩ := T.comp hk hw
    have hsel := compOp_noSelect hcomp
    unfold Oper.wp
    cases hs : sortOf (R.it k).op with
    | pure =>
      obtain ⟨ts', ρ, hopd, hex, hsame⟩ := I.view T hn hg hk hbef (M := max (H k).next (H q).next) (by omega) (by omega) hsel
      rw [hex]
      have hgM : GRel P (cut ν (max (H k).next (H q).next)) := (hg.mono I.ext.mono).mono (cut_mono (by omega))
      refine opStep hcall hgM (Rel.empty (w := w) (N := max (H k).next (H q).next) fun b hb => cut_ge hb) hopd hcomp (v := V k) (σ' := ⟨max (H k).next (H q).next, .leaf⟩) ?_ ?_
      · rw [hsame]; exact (pureShape hs hev).2 _
      · intro μ' w' x r' e' hv
        have hμ := map_same (ν := ν) (N := max (H k).next (H q).next) r' rfl (fun b hb => by rw [e'.old b hb, cut_lt hb])
        have hkept : Kept w w' := Kept.of_empty e'
        have hnm : ¬ Makes R tsF k := fun h => by rw [h.1] at hs; cases hs
        have hnc : sortOf (R.it k).op ≠ .chain := by rw [hs]; intro h; cases h
        refine hK _ _ _ _ ((I.world (I.rel.kept hkept) (.kept hkept)).addStay T hn hk hbef hnc hnm ?_)
        rw [T.stays hk hnc hnm, ← hμ]
        exact hv
    | read =>
      have hnm : ¬ Makes R tsF k := fun h => by rw [h.1] at hs; cases hs
      have hnc : sortOf (R.it k).op ≠ .chain := by rw [hs]; intro h; cases h
      -- the read, on the heap as it is
      have hread : evOp (R.it k).op call tsF (H q) = .val (V k) (H q) ∧ (H k).next ≤ (H q).next := by
        rcases Nat.lt_or_ge k q with hlt | hge
        · rcases I.qc with h | ⟨p, h1, h2, h3⟩
          · omega
          · have hpN : p < R.N := by have := I.qle; omega
            have hne : k ≠ p := fun e => by rw [e] at hs; rw [hs] at h2; cases h2
            obtain ⟨σ', hσ⟩ := T.re k p (by omega) hpN h2 hs (fun hb => hkd (I.clo p hpN h3 k hk hb)) hw
            have hpure := evOp_pure (sort_isCall hnc) call tsF (H (p + 1))
            rw [← hpure] at hσ
            have := readShape hs hσ
            subst this
            rw [h1]
            exact ⟨hσ, T.nextMono hn (by omega) (by omega)⟩
        · have hsame : ∀ p, q ≤ p → p ≤ k → H p = H q := by
            intro p
            induction p with
            | zero => intro h _; rw [show q = 0 by omega]
            | succ p ih =>
              intro h1 h2
              by_cases e : q = p + 1
              · rw [e]
              · rw [← ih (by omega) (by omega)]
                have hnc' : ∀ c, q ≤ c → c < k → sortOf (R.it c).op ≠ .chain := fun c g1 g2 g3 =>
                  I.qn c g1 (by omega) g3 (hbef c (by omega) (R.chainr c k g2 hk hs g3))
                refine T.stays (by omega) (hnc' p (by omega) (by omega)) ?_
                intro hmk
                obtain ⟨c, g1, g2, g3⟩ := R.late k hk hs p (by omega) hmk.1
                exact hnc' c (by omega) g2 g3
          have hk0 := hsame k hge (Nat.le_refl _)
          have h1 := T.stays hk hnc hnm
          rw [h1, hk0] at hev
          exact ⟨hev, by rw [hk0]; exact Nat.le_refl _⟩
      obtain ⟨ts', ρ, hopd, hex, hsame⟩ := I.view T hn hg hk hbef (M := (H q).next) (Nat.le_refl _) hread.2 hsel
      rw [hex]
      refine opStep hcall (hg.mono I.ext.mono) I.rel hopd hcomp (v := V k) (σ' := H q) ?_ ?_
      · rw [hsame]; exact hread.1
      · intro μ' w' x r' e' hv
        have hμ := map_same (ν := ν) (N := (H q).next) r' rfl (fun b hb => by rw [e'.old b hb, cut_lt hb])
        subst hμ
        refine hK _ _ _ _ ((I.world r' e').addStay T hn hk hbef hnc hnm ?_)
        exact hv.mono (cut_mono (by omega))
    | fresh =>
      have hm : Makes R tsF k := ⟨hs, hw⟩
      have hq := hqk (.inr hs)
      obtain ⟨ob, hH, hob⟩ := T.makes hk hm
      obtain ⟨ts', ρ, hopd, hex, hsame⟩ := I.view T hn hg hk hbef (M := (H k).next) (T.nextMono hn hq (by omega)) (Nat.le_refl _) hsel
      rw [hex]
      have hgM : GRel P (cut ν (H k).next) := (hg.mono I.ext.mono).mono (cut_mono (T.nextMono hn hq (by omega)))
      refine opStep hcall hgM (Rel.empty (w := w) (N := (H k).next) fun b hb => cut_ge hb) hopd hcomp (v := V k) (σ' := Heap.new ⟨(H k).next, .leaf⟩ ob) ?_ ?_
      · rw [hsame]; exact hob _
      · intro μ' w' x r' e' hv
        obtain ⟨ν', I'⟩ := I.addFresh T hn hk hbef hkd hq hm hH r' e' hv
        exact hK _ _ _ _ I'
    | chain =>
      have hq := hqk (.inl hs)
      have U := hupto hs
      obtain ⟨ts', ρ, hopd, hex, hsame⟩ := I.view T hn hg hk hbef (M := (H k).next) (T.nextMono hn hq (by omega)) (Nat.le_refl _) hsel
      rw [hex]
      refine opStep hcall (hg.mono U.ext.mono) U.rel hopd hcomp (v := V k) (σ' := H (k + 1)) ?_ ?_
      · rw [hsame]; exact hev
      · intro μ' w' x r' e' hv
        obtain ⟨ν', I'⟩ := I.addChain T hn hk hbef hkd hq hs U r' e' hv
        exact hK _ _ _ _ I'

/-- How many are done. -/
def nDone (listed : Array Bool) : Nat := listed.toList.count true

theorem nDone_set {listed : Array Bool} {i : Nat} (h : listed[i]? = some false) : nDone (listed.setIfInBounds i true) = nDone listed + 1 := by
  have hlt : i < listed.size := (Array.getElem?_eq_some_iff.1 h).1
  have hf : listed.toList[i]'(by simpa using hlt) = false := by
    have := (Array.getElem?_eq_some_iff.1 h).2
    simpa using this
  unfold nDone
  rw [Array.toList_setIfInBounds, List.count_set (by simpa using hlt)]
  simp [hf]

/-- What is to hold at the end does: all is done. -/
theorem Inv.all (T : Run R call ts0 H V tsF) (hn : NextOk call) (hfull : tsF.full 4) (I : Inv R H V tsF μ0 σ0 w0 ds listed a w q ν) (hall : ∀ k, k < R.N → Dn R listed k) :
    ∃ μ', Rel μ' (H R.N) w ∧ Ext μ0 σ0 w0 μ' (H R.N) w ∧ FRel μ' n ⟨tsF, ds⟩ a := by
  have U := I.upTo T R.N I.qle (Nat.le_refl _) (fun k h1 h2 h3 => I.qn k h1 h2 h3 (hall k h2)) (fun k _ h2 _ => hall k h2)
  refine ⟨_, U.rel, U.ext, ⟨I.size, ?_, hfull, I.defers.mono U.ext.mono⟩⟩
  intro t ht
  by_cases hd : ∃ j, j < R.N ∧ (R.it j).dst = some t
  · obtain ⟨j, hj, hd⟩ := hd
    show VRel _ (tmpOf tsF t) _
    rw [T.dstV j hj t hd]
    refine (I.vals j hj (hall j hj) t hd).mono (cut_mono ?_)
    have := T.nextMono hn (show j + 1 ≤ R.N by omega) (by omega)
    have := T.nextMono hn I.qle (by omega)
    omega
  · exact (I.old t ht fun j hj e => hd ⟨j, hj, e⟩).mono U.ext.mono

theorem Inv.any (hcall : CallOk P call) (hn : NextOk call) (hg : GRel P μ0) (T : Run R call ts0 H V tsF) {Q : Exit → Act → World → Prop}
    (hQ : ∀ μ' a' w', Rel μ' (H R.N) w' → Ext μ0 σ0 w0 μ' (H R.N) w' → FRel μ' n ⟨tsF, ds⟩ a' → Q .normal a' w') :
    ∀ (fuel : Nat) (listed : Array Bool) (a : Act) (w : World) (q : Nat) (ν : Mu), Inv R H V tsF μ0 σ0 w0 ds listed a w q ν → nDone listed + fuel = ops.size → wpAny P .any ops Q fuel listed a w := by
  -- where nothing is ready, all is done
  have hdone : ∀ (listed : Array Bool) (a : Act) (w : World) (q : Nat) (ν : Mu), Inv R H V tsF μ0 σ0 w0 ds listed a w q ν → Region.ready .any ops listed = [] → Q .normal a w := by
    intro listed a w q ν I hnil
    have hall : ∀ i, i < ops.size → listed.getD i false = true := by
      intro i
      induction i using Nat.strongRecOn with
      | ind i ih =>
        intro hi
        obtain ⟨k, hk, rfl⟩ := R.surj i hi
        cases hb : listed.getD (R.ix k) false with
        | true => rfl
        | false =>
          exfalso
          have hlt : R.ix k < listed.size := by rw [I.lsize]; exact hi
          have hmem : R.ix k ∈ Region.ready .any ops listed := by
            rw [mem_ready]
            refine ⟨?_, R.o k, R.ho k hk, fun e he hbd => ?_⟩
            · simp [hlt] at hb ⊢
              exact hb
            · have := R.edges k hk e he hbd
              exact ih e.on this (by omega)
          rw [hnil] at hmem
          cases hmem
    obtain ⟨μ', r', e', f'⟩ := I.all T hn T.full (fun k hk => hall (R.ix k) (Array.getElem?_eq_some_iff.1 (R.ho k hk)).1)
    exact hQ μ' a w r' e' f'
  intro fuel
  induction fuel with
  | zero =>
    intro listed a w q ν I hc
    have hnil : Region.ready .any ops listed = [] := by
      cases hr : Region.ready .any ops listed with
      | nil => rfl
      | cons i rest =>
        exfalso
        have hi : i ∈ Region.ready .any ops listed := by rw [hr]; simp
        obtain ⟨h0, o, ho, _⟩ := mem_ready.1 hi
        have hlt : i < listed.size := by rw [I.lsize]; exact (Array.getElem?_eq_some_iff.1 ho).1
        have hle : nDone (listed.setIfInBounds i true) ≤ ops.size := by
          unfold nDone
          refine Nat.le_trans List.count_le_length ?_
          simp [I.lsize]
        have hf : listed[i]? = some false := by
          simp [hlt] at h0 ⊢
          exact h0
        rw [nDone_set hf] at hle
        omega
    exact ⟨hnil, hdone listed a w q ν I hnil⟩
  | succ fuel ih =>
    intro listed a w q ν I hc
    refine ⟨hdone listed a w q ν I, fun i hi => ?_⟩
    obtain ⟨h0, o, ho, hr⟩ := mem_ready.1 hi
    obtain ⟨k, hk, rfl⟩ := R.surj i (Array.getElem?_eq_some_iff.1 ho).1
    have hok := R.ho k hk
    rw [ho] at hok
    cases hok
    have hlt : R.ix k < listed.size := by rw [I.lsize]; exact (Array.getElem?_eq_some_iff.1 ho).1
    have hf : listed[R.ix k]? = some false := by
      simp [hlt] at h0 ⊢
      exact h0
    refine I.step hcall hn hg T hk ?_ hr ?_
    · unfold Dn
      simp [Array.getD_eq_getD_getElem?, hf]
    · intro a' w' q' ν' I'
      refine ih _ a' w' q' ν' I' ?_
      rw [nDone_set hf]
      omega

end
end Go.Ab
