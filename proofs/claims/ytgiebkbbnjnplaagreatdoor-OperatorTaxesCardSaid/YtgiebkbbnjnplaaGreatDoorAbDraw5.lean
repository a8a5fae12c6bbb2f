/- Regions that draw their order: one more operation, in any order. -/
import Derived.Test.YtgiebkbbnjnplaaGreatDoorAbDraw4
namespace Go.Ab
section
variable {P : Program} {n : Nat} {ops : Array Oper} {R : Reg P n ops} {call : CallFn} {ts0 tsF : Tmps} {H : Nat → Heap} {V : Nat → AVal}
variable {μ0 : Mu} {σ0 : Heap} {w0 : World} {ds : List (FuncId × List AVal)} {listed : Array Bool} {a : Act} {w : World} {q : Nat} {ν : Mu}

/-- A temporary that a ready operation looks at. -/
theorem Inv.temp (T : Run R call ts0 H V tsF) (hn : NextOk call) (I : Inv R H V tsF μ0 σ0 w0 ds listed a w q ν) {k : Nat} (hk : k < R.N) (hbef : ∀ j, j < R.N → R.bef j k → Dn R listed j)
    {M : Nat} (h1 : (H q).next ≤ M) (h2 : (H k).next ≤ M) {t : Nat} (ht : t ∈ R.looks k) : VRel (cut ν M) (tmpOf tsF t) (a.tmps.getD t undef) := by
  have h256 := R.look256 k hk t ht
  by_cases hd : ∃ j, j < R.N ∧ (R.it j).dst = some t
  · obtain ⟨j, hj, hd⟩ := hd
    have hlt : j < k := by
      rcases Nat.lt_or_ge j k with h | h
      · exact h
      · exact absurd ht (R.look2 k j h hj t hd)
    rw [T.dstV j hj t hd]
    refine (I.vals j hj (hbef j hj (R.look1 j k hlt hk t hd ht)) t hd).mono (cut_mono ?_)
    have := T.nextMono hn (show j + 1 ≤ k by omega) (by omega)
    omega
  · exact (I.old t h256 (fun j hj e => hd ⟨j, hj, e⟩)).mono (I.ext.mono.trans (cut_mono h1))

theorem Inv.wanted (T : Run R call ts0 H V tsF) (hn : NextOk call) (I : Inv R H V tsF μ0 σ0 w0 ds listed a w q ν) {k : Nat} (hk : k < R.N) (hbef : ∀ j, j < R.N → R.bef j k → Dn R listed j) :
    Region.wanted (R.o k) (yielded ops a.tmps) = wantedA (R.it k).guard tsF := by
  obtain ⟨hg, _⟩ := compItem_some (R.hi k hk)
  refine wanted_of (μ := cut ν (max (H q).next (H k).next)) hg fun t b e _ => ?_
  exact I.temp T hn hk hbef (by omega) (by omega) (R.looksG k hk t b e)

/-- A ready operation's operands, and nothing else of the frame. -/
theorem Inv.view (T : Run R call ts0 H V tsF) (hn : NextOk call) (hg : GRel P μ0) (I : Inv R H V tsF μ0 σ0 w0 ds listed a w q ν) {k : Nat} (hk : k < R.N) (hbef : ∀ j, j < R.N → R.bef j k → Dn R listed j)
    {M : Nat} (h1 : (H q).next ≤ M) (h2 : (H k).next ≤ M) (hsel : ∀ cs b, (R.o k).op ≠ .select cs b) :
    ∃ (ts' : Tmps) (ρ : Operand → Value), HOpd P (cut ν M) ts' ρ ∧ execOp a.eval (R.o k) = execOp ρ (R.o k) ∧ ∀ (call : CallFn) (σ : Heap), evOp (R.it k).op call ts' σ = evOp (R.it k).op call tsF σ := by
  obtain ⟨ts', _, ht'⟩ := keepT (fun t => (R.looks k).contains t) tsF T.full
  refine ⟨ts', fun x => match x with | .tmp t => if (R.looks k).contains t then a.eval (.tmp t) else undef | x => a.eval x, ?_, ?_, ?_⟩
  · intro x y hc
    cases x with
    | tmp t =>
      simp only [compOpd] at hc
      split at hc
      · rename_i hlt
        cases hc
        show VRel (cut ν M) (tmpOf ts' t) (if (R.looks k).contains t then a.eval (.tmp t) else undef)
        rw [ht' t hlt]
        cases hb : (R.looks k).contains t with
        | false => exact VRel.undef _
        | true =>
          rw [if_pos rfl, if_pos rfl]
          exact I.temp T hn hk hbef h1 h2 (by simpa using hb)
      · cases hc
    | const v =>
      simp only [compOpd] at hc
      obtain ⟨b, hb, rfl⟩ := omap hc
      exact ofValue_rel _ _ _ _ hb
    | global g =>
      simp only [compOpd] at hc
      split at hc
      · rename_i hlt
        cases hc
        obtain ⟨room, e⟩ := hg g hlt
        simp only [Opd.ev, VRel, Act.eval]
        exact ⟨_, (I.ext.mono.trans (cut_mono h1)) _ _ e, rfl⟩
      · cases hc
    | func f =>
      simp only [compOpd] at hc
      cases hc
      simp only [Opd.ev, VRel, Act.eval]
      exact ⟨#[], rfl, by simp [VRels]⟩
  · refine execOp_congr _ hsel fun x hx => ?_
    cases x with
    | tmp t =>
      have ht : t ∈ R.looks k := by
        refine R.looksC k hk t (List.mem_append_left _ ?_)
        exact List.mem_filterMap.2 ⟨.tmp t, by simpa using hx, rfl⟩
      show a.eval (.tmp t) = if (R.looks k).contains t then a.eval (.tmp t) else undef
      rw [if_pos (by simpa using ht)]
    | const v => rfl
    | global g => rfl
    | func f => rfl
  · intro call σ
    refine evOp_congr _ call σ fun x hx => ?_
    cases x with
    | tmp t =>
      have ht := R.looksA k hk t hx
      show tmpOf ts' t = tmpOf tsF t
      rw [ht' t (R.look256 k hk t ht), if_pos (by simpa using ht)]
    | const v => rfl

/-- An operation that makes nothing and changes nothing is done. -/
theorem Inv.addStay (T : Run R call ts0 H V tsF) (hn : NextOk call) (I : Inv R H V tsF μ0 σ0 w0 ds listed a w q ν) {k : Nat} (hk : k < R.N) (hbef : ∀ j, j < R.N → R.bef j k → Dn R listed j)
    (hc : sortOf (R.it k).op ≠ .chain) (hm : ¬ Makes R tsF k) {x : Value} (hv : VRel (cut ν (max (H (k + 1)).next (H q).next)) (V k) x) :
    Inv R H V tsF μ0 σ0 w0 ds (listed.setIfInBounds (R.ix k) true) (a.put (R.o k).dst x) w q ν := by
  have hne : ∀ j, (j = k ∨ Dn R listed j) → Makes R tsF j → Dn R listed j := by
    rintro j (rfl | h) hmj
    · exact absurd hmj hm
    · exact h
  refine I.finish T hn hk hbef (Nat.le_refl _) (.refl ν) I.qle ?_ ?_ I.rel I.ext ?_ ?_ ?_ hv
  · rcases I.qc with h | ⟨p, h1, h2, h3⟩
    · exact .inl h
    · exact .inr ⟨p, h1, h2, (dn_set I hk (by have := I.qle; omega)).2 (.inr h3)⟩
  · intro j h1 h2 h3 h4
    rcases (dn_set I hk h2).1 h4 with rfl | h4
    · exact hc h3
    · exact I.qn j h1 h2 h3 h4
  · intro j h1 h2 h3 h4
    exact I.pend j h1 h2 (hne j h3 h4) h4
  · intro i j h1 h2 h3 h4 h5 h6 h7
    exact I.pinj i j h1 h2 h3 (hne i h4 h5) h5 (hne j h6 h7) h7
  · intro b hb h
    exact I.none b hb fun j h1 h2 h3 h4 => h j h1 h2 (.inr h3) h4

/-- A change of memory is done. -/
theorem Inv.addChain (T : Run R call ts0 H V tsF) (hn : NextOk call) (I : Inv R H V tsF μ0 σ0 w0 ds listed a w q ν) {k : Nat} (hk : k < R.N) (hbef : ∀ j, j < R.N → R.bef j k → Dn R listed j)
    (hkd : ¬ Dn R listed k) (hqk : q ≤ k) (hc : sortOf (R.it k).op = .chain) (U : UpTo R H tsF μ0 σ0 w0 listed w ν k) {w' : World} {μ' : Mu} {x : Value}
    (r' : Rel μ' (H (k + 1)) w') (e' : Ext (cut ν (H k).next) (H k) w μ' (H (k + 1)) w') (hv : VRel μ' (V k) x) :
    ∃ ν', Inv R H V tsF μ0 σ0 w0 ds (listed.setIfInBounds (R.ix k) true) (a.put (R.o k).dst x) w' (k + 1) ν' := by
  have hnk : ¬ Makes R tsF k := fun h => by rw [h.1] at hc; cases hc
  have hmk : ∀ {j}, j < R.N → Makes R tsF j → (H (j + 1)).next = (H j).next + 1 := by
    intro j hj h
    obtain ⟨ob, e, _⟩ := T.makes hj h
    rw [e]; rfl
  have h01 : (H k).next ≤ (H (k + 1)).next := T.next1 hn hk
  have hq0 : (H q).next ≤ (H k).next := T.nextMono hn hqk (by omega)
  let ν' : Mu := fun b => if b < (H (k + 1)).next then μ' b else ν b
  have hge : ∀ b, (H (k + 1)).next ≤ b → ν' b = ν b := fun b hb => if_neg (by omega)
  have hcut : cut ν' (H (k + 1)).next = μ' := by
    funext b
    by_cases hb : b < (H (k + 1)).next
    · rw [cut_lt hb]; exact if_pos hb
    · rw [cut_ge (by omega)]; exact (r'.fresh b (by omega)).symm
  have hle : ν.le ν' := by
    intro b m hb
    by_cases h1 : b < (H (k + 1)).next
    · show (if b < (H (k + 1)).next then μ' b else ν b) = some m
      rw [if_pos h1]
      by_cases h2 : b < (H k).next
      · exact e'.mono b m (by rw [cut_lt h2]; exact hb)
      · have := I.none b (by omega) fun j g1 g2 g3 g4 => by
          rcases Nat.lt_trichotomy j k with h | h | h
          · have := hmk g2 g4
            have := T.nextMono hn (show j + 1 ≤ k by omega) (by omega)
            omega
          · subst h; exact absurd g4 hnk
          · have := T.nextMono hn (show k + 1 ≤ j by omega) (by omega)
            omega
        rw [this] at hb
        cases hb
    · rw [hge b (by omega)]; exact hb
  have hpos : ∀ j, k + 1 ≤ j → j < R.N → ν' (H j).next = ν (H j).next := fun j h1 h2 => hge _ (T.nextMono hn h1 (by omega))
  refine ⟨ν', I.finish T hn hk hbef (by omega) hle (by omega) (.inr ⟨k, rfl, hc, (dn_set I hk hk).2 (.inl rfl)⟩) ?_ (by rw [hcut]; exact r') (by rw [hcut]; exact U.ext.trans e') ?_ ?_ ?_ ?_⟩
  · intro j h1 h2 h3 h4
    rcases (dn_set I hk h2).1 h4 with rfl | h4
    · omega
    · exact hkd (I.clo j h2 h4 k hk (R.chainc k j (by omega) h2 h3 (.inl hc)))
  · intro j h1 h2 h3 h4
    have h3' : Dn R listed j := h3.resolve_left (by omega)
    obtain ⟨m, ob, g1, g2, g3, g4, g5⟩ := U.pend j (by omega) h2 h3' h4
    refine ⟨m, ob, by rw [hpos j h1 h2]; exact g1, g2, (g3.mono (cut_of_le hle _)).world (e'.frame _ g3.lt g5), g4, ?_⟩
    intro b o' m' hb hm'
    rw [hcut] at hm'
    rcases e'.owned b o' m' hb hm' with hp | ⟨b0, o0, m0, k1, k2, k3⟩
    · have := g3.lt
      omega
    · rw [← k3]
      exact g5 b0 o0 m0 k1 k2
  · intro i j h1 h2 h3 h4 h5 h6 h7 m m' hm hm'
    rw [hpos i h1 (by omega)] at hm
    rw [hpos j (by omega) h3] at hm'
    exact I.pinj i j (by omega) h2 h3 (h4.resolve_left (by omega)) h5 (h6.resolve_left (by omega)) h7 m m' hm hm'
  · intro b hb h
    rw [hge b hb]
    refine I.none b (by omega) fun j g1 g2 g3 g4 => ?_
    rcases Nat.lt_trichotomy j k with h' | h' | h'
    · have := hmk g2 g4
      have := T.nextMono hn (show j + 1 ≤ k by omega) (by omega)
      omega
    · subst h'; exact absurd g4 hnk
    · exact h j (by omega) g2 (.inr g3) g4
  · rw [Nat.max_self, hcut]
    exact hv

/-- A block is made. -/
theorem Inv.addFresh (T : Run R call ts0 H V tsF) (hn : NextOk call) (I : Inv R H V tsF μ0 σ0 w0 ds listed a w q ν) {k : Nat} (hk : k < R.N) (hbef : ∀ j, j < R.N → R.bef j k → Dn R listed j)
    (hkd : ¬ Dn R listed k) (hqk : q ≤ k) (hm : Makes R tsF k) {ob : AObj} (hH : H (k + 1) = (H k).new ob) {w' : World} {μ' : Mu} {x : Value}
    (r' : Rel μ' (Heap.new ⟨(H k).next, .leaf⟩ ob) w') (e' : Ext (cut ν (H k).next) ⟨(H k).next, .leaf⟩ w μ' (Heap.new ⟨(H k).next, .leaf⟩ ob) w') (hv : VRel μ' (V k) x) :
    ∃ ν', Inv R H V tsF μ0 σ0 w0 ds (listed.setIfInBounds (R.ix k) true) (a.put (R.o k).dst x) w' q ν' := by
  have hkept : Kept w w' := Kept.of_empty e'
  have I' := I.world (I.rel.kept hkept) (.kept hkept)
  have hnk : (H (k + 1)).next = (H k).next + 1 := by rw [hH]; rfl
  have hq0 : (H q).next ≤ (H k).next := T.nextMono hn hqk (by omega)
  have hmk : ∀ {j}, j < R.N → Makes R tsF j → (H (j + 1)).next = (H j).next + 1 := by
    intro j hj h
    obtain ⟨ob, e, _⟩ := T.makes hj h
    rw [e]; rfl
  obtain ⟨m, hm1, hm2⟩ := r'.objs (H k).next ob (by rw [Heap.get_new, if_pos rfl])
  have hmp : w.heap.size ≤ m.p := by
    rcases e'.owned (H k).next ob m (by rw [Heap.get_new, if_pos rfl]) hm1 with h | ⟨b0, o0, m0, h, _⟩
    · exact h
    · exact (nomatch h)
  have hneq : ∀ j, j < R.N → j ≠ k → Makes R tsF j → (H j).next ≠ (H k).next := by
    intro j hj hne hmj
    rcases Nat.lt_or_ge j k with h | h
    · have := hmk hj hmj
      have := T.nextMono hn (show j + 1 ≤ k by omega) (by omega)
      omega
    · have := T.nextMono hn (show k + 1 ≤ j by omega) (by omega)
      omega
  have hnone : ν (H k).next = Option.none := I.none _ hq0 fun j h1 h2 h3 h4 => (hneq j h2 (fun e => hkd (e ▸ h3)) h4).symm
  have hle : ν.le (ν.put (H k).next m) := Mu.put_le m hnone
  have hself : (ν.put (H k).next m) (H k).next = some m := by simp [Mu.put]
  have hoth : ∀ b, b ≠ (H k).next → (ν.put (H k).next m) b = ν b := fun b hb => if_neg hb
  have hcut : μ' = cut (ν.put (H k).next m) ((H k).next + 1) := by
    rw [cut_succ hself]
    funext b
    by_cases hb : b = (H k).next
    · subst hb; simp [Mu.put, hm1]
    · unfold Mu.put
      rw [if_neg hb]
      by_cases hlt : b < (H k).next
      · rw [cut_lt hlt, if_neg hb, e'.old b hlt, cut_lt hlt]
      · rw [cut_ge (by omega)]
        exact r'.fresh b (by show (H k).next + 1 ≤ b; omega)
  have hcutq : cut (ν.put (H k).next m) (H q).next = cut ν (H q).next := by
    funext b
    by_cases hb : b < (H q).next
    · rw [cut_lt hb, cut_lt hb, hoth b (by omega)]
    · rw [cut_ge (by omega), cut_ge (by omega)]
  refine ⟨_, I'.finish T hn hk hbef (Nat.le_refl _) hle I.qle ?_ ?_ (by rw [hcutq]; exact I'.rel) (by rw [hcutq]; exact I'.ext) ?_ ?_ ?_ ?_⟩
  · rcases I.qc with h | ⟨p, h1, h2, h3⟩
    · exact .inl h
    · exact .inr ⟨p, h1, h2, (dn_set I hk (by have := I.qle; omega)).2 (.inr h3)⟩
  · intro j h1 h2 h3 h4
    rcases (dn_set I hk h2).1 h4 with rfl | h4
    · rw [hm.1] at h3; cases h3
    · exact I.qn j h1 h2 h3 h4
  · intro j h1 h2 h3 h4
    by_cases e : j = k
    · subst e
      refine ⟨m, ob, hself, hH, by rw [← hcut]; exact hm2, Nat.le_trans I.ext.size hmp, ?_⟩
      intro b o' m' hb hm'
      rw [hcutq] at hm'
      obtain ⟨m2, g1, g2⟩ := I.rel.objs b o' hb
      rw [hm'] at g1
      cases g1
      have := g2.lt
      omega
    · have h3' := h3.resolve_left e
      obtain ⟨m2, ob2, g1, g2, g3, g4, g5⟩ := I'.pend j h1 h2 h3' h4
      exact ⟨m2, ob2, by rw [hoth _ (hneq j h2 e h4)]; exact g1, g2, g3.mono (cut_of_le hle _), g4, by rw [hcutq]; exact g5⟩
  · intro i j h1 h2 h3 h4 h5 h6 h7 m1 m2 g1 g2
    have old : ∀ j, q ≤ j → j < R.N → j ≠ k → Dn R listed j → Makes R tsF j → ∀ m', (ν.put (H k).next m) (H j).next = some m' → ν (H j).next = some m' ∧ m'.p < w.heap.size := by
      intro j a1 a2 a3 a4 a5 m' a6
      rw [hoth _ (hneq j a2 a3 a5)] at a6
      obtain ⟨m2, ob2, b1, b2, b3, _⟩ := I.pend j a1 a2 a4 a5
      rw [a6] at b1
      cases b1
      exact ⟨a6, b3.lt⟩
    by_cases e1 : i = k
    · subst e1
      rw [hself] at g1
      cases g1
      obtain ⟨_, hlt⟩ := old j (by omega) h3 (by omega) (h6.resolve_left (by omega)) h7 m2 g2
      omega
    · obtain ⟨k1, hlt1⟩ := old i h1 (by omega) e1 (h4.resolve_left e1) h5 m1 g1
      by_cases e2 : j = k
      · subst e2
        rw [hself] at g2
        cases g2
        omega
      · obtain ⟨k2, _⟩ := old j (by omega) h3 e2 (h6.resolve_left e2) h7 m2 g2
        exact I.pinj i j h1 h2 h3 (h4.resolve_left e1) h5 (h6.resolve_left e2) h7 m1 m2 k1 k2
  · intro b hb h
    have hbk : b ≠ (H k).next := h k hqk hk (.inl rfl) hm
    rw [hoth b hbk]
    exact I.none b hb fun j h1 h2 h3 h4 => h j h1 h2 (.inr h3) h4
  · refine hv.mono ?_
    rw [hcut]
    exact cut_mono (by omega)

end
end Go.Ab
