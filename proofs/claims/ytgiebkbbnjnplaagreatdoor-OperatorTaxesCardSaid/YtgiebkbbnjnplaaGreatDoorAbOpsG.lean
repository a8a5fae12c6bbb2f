/- Operations, one by one. Part G: slices, places, parts, lengths. -/
import Derived.Test.YtgiebkbbnjnplaaGreatDoorAbOpsF
namespace Go.Ab
section
variable {P : Program} {μ : Mu} {σ : Heap} {w : World} {ts : Tmps} {ρ : Operand → Value}

/-- A bound of a slice, with the value that the model sees. -/
theorem bound_some {v : AVal} {x : Value} (hv : VRel μ v x) {most i : Nat} {dflt : Nat} (h : bound (some v) most dflt = some i) (y : Nat) (hy : most ≤ y) (code : BoundsCode) :
    (Instr.sliceBound x y code).run P w = .ok i w ∧ i ≤ most := by
  unfold bound at h
  split at h
  · rename_i hh; cases hh
  · rename_i k n hh
    cases hh
    cases hb : Nat.ble n most with
    | false => rw [hb] at h; cases h
    | true =>
      rw [hb] at h
      have hle := Nat.le_of_ble_eq_true hb
      cases h
      rw [hv.int]
      refine ⟨?_, hle⟩
      simp only [Instr.sliceBound, asIntOf, Sem.run_bind, Sem.run_pure, Result.andThen_ok]
      rw [if_pos (by simp; omega)]
      simp
  · cases h

/-- The optional operands of a slice. -/
def ORelV (μ : Mu) : Option AVal → Option Value → Prop
  | none, none => True
  | some a, some v => VRel μ a v
  | _, _ => False

theorem optRel (h : HOpd P μ ts ρ) {x : Option Operand} {y : Option Opd} (hc : compOpt P x = some y) : ORelV μ (optEv y ts) (x.map ρ) := by
  cases x with
  | none => simp [compOpt] at hc; subst hc; trivial
  | some x =>
    simp only [compOpt] at hc
    cases hx : compOpd P x with
    | none => rw [hx] at hc; cases hc
    | some z =>
      rw [hx] at hc
      cases hc
      exact h _ _ hx

theorem bound_opt {v : Option AVal} {x : Option Value} (hv : ORelV μ v x) {most i dflt : Nat} (hd : dflt ≤ most) (h : bound v most dflt = some i) : i ≤ most := by
  cases v with
  | none => simp [bound] at h; omega
  | some v =>
    cases x with
    | none => exact hv.elim
    | some x => exact (bound_some (P := default) (w := default) hv h most (Nat.le_refl _) .sliceB).2

theorem sliceBounds_run {isSlice : Bool} {len cap cap' : Nat} (hcl : len ≤ cap) (hcc : cap ≤ cap') {lo hi mx : Option AVal} {lo' hi' mx' : Option Value} (h1 : ORelV μ lo lo') (h2 : ORelV μ hi hi') (h3 : ORelV μ mx mx')
    {m h l : Nat} (e1 : bound mx cap cap = some m) (e2 : bound hi m len = some h) (e3 : bound lo h 0 = some l) (hmh : ¬ (mx.isSome ∧ hi = none)) :
    (Instr.sliceBounds isSlice len cap' lo' hi' mx').run P w = .ok (l, h, if mx.isSome then m else cap') w ∧ l ≤ h ∧ h ≤ m ∧ m ≤ cap := by
  have hm : m ≤ cap := bound_opt h3 (Nat.le_refl _) e1
  cases mx with
  | none =>
    cases mx' with
    | some _ => exact h3.elim
    | none =>
      simp [bound] at e1
      subst e1
      have hh : h ≤ cap := bound_opt h2 hcl e2
      have hl : l ≤ h := bound_opt h1 (Nat.zero_le _) e3
      refine ⟨?_, hl, hh, hm⟩
      cases hi with
      | none =>
        cases hi' with
        | some _ => exact h2.elim
        | none =>
          simp [bound] at e2
          subst e2
          cases lo with
          | none =>
            cases lo' with
            | some _ => exact h1.elim
            | none => simp [bound] at e3; subst e3; simp [Instr.sliceBounds]
          | some lo =>
            cases lo' with
            | none => exact h1.elim
            | some lo' => simp [Instr.sliceBounds, (bound_some (P := P) (w := w) h1 e3 len (Nat.le_refl _) .sliceB).1]
      | some hi =>
        cases hi' with
        | none => exact h2.elim
        | some hi' =>
          have g2 := fun c => (bound_some (P := P) (w := w) h2 e2 cap' (by omega) c).1
          cases lo with
          | none =>
            cases lo' with
            | some _ => exact h1.elim
            | none => simp [bound] at e3; subst e3; simp [Instr.sliceBounds, g2]
          | some lo =>
            cases lo' with
            | none => exact h1.elim
            | some lo' => simp [Instr.sliceBounds, g2, (bound_some (P := P) (w := w) h1 e3 h (Nat.le_refl _) .sliceB).1]
  | some mx =>
    cases mx' with
    | none => exact h3.elim
    | some mx' =>
      cases hi with
      | none => exact absurd ⟨rfl, rfl⟩ hmh
      | some hi =>
        cases hi' with
        | none => exact h2.elim
        | some hi' =>
          have g3 := fun c => (bound_some (P := P) (w := w) h3 e1 cap' hcc c).1
          have g2 := fun c => (bound_some (P := P) (w := w) h2 e2 m (Nat.le_refl _) c)
          have hl : l ≤ h := bound_opt h1 (Nat.zero_le _) e3
          refine ⟨?_, hl, (g2 .sliceB).2, hm⟩
          cases lo with
          | none =>
            cases lo' with
            | some _ => exact h1.elim
            | none => simp [bound] at e3; subst e3; simp [Instr.sliceBounds, g3, (g2 _).1]
          | some lo =>
            cases lo' with
            | none => exact h1.elim
            | some lo' => simp [Instr.sliceBounds, g3, (g2 _).1, (bound_some (P := P) (w := w) h1 e3 h (Nat.le_refl _) .slice3C).1]

theorem good_slice (r : Rel μ σ w) (h : HOpd P μ ts ρ) {t e : TypeId} (ht : P.underlying t = some (.slice e)) {n : Nat} (hn : sizeAt P e = some n) {x : Operand} {x' : Opd} (hx : compOpd P x = some x')
    {lo hi mx : Option Operand} {lo' hi' mx' : Option Opd} (h1 : compOpt P lo = some lo') (h2 : compOpt P hi = some hi') (h3 : compOpt P mx = some mx') :
    Good μ σ w (oSlice n x' lo' hi' mx' ts σ) ((do pure (Next.value (← Instr.sliceAt t (ρ x) (lo.map ρ) (hi.map ρ) (mx.map ρ))) : Sem Next).run P w) := by
  have hr := h _ _ hx
  unfold oSlice
  refine Good.of r fun av ha => ?_
  unfold sliceA at ha
  split at ha
  case h_2 => cases ha
  rename_i a ln cap ex esz' e0
  rw [e0] at hr
  split at ha
  case h_1 => cases ha
  rename_i m e1
  split at ha
  case h_1 => cases ha
  rename_i hh e2
  split at ha
  case h_1 => cases ha
  rename_i l e3
  split at ha
  case h_1 => cases ha
  rename_i q1 q2 hno
  have hmh : ¬ ((optEv mx' ts).isSome ∧ optEv hi' ts = none) := by
    rintro ⟨ha1, ha2⟩
    obtain ⟨z, hz⟩ := Option.isSome_iff_exists.1 ha1
    exact hno z hz ha2
  cases a with
  | none =>
    simp only [VRel] at hr
    obtain ⟨rfl, rfl, hv⟩ := hr
    obtain ⟨hb, hl, hh', hm⟩ := sliceBounds_run (P := P) (w := w) (isSlice := true) (cap' := 0) (Nat.le_refl 0) (Nat.le_refl 0) (optRel h h1) (optRel h h2) (optRel h h3) e1 e2 e3 hmh
    cases ha
    refine ⟨.slice none 0 0, ?_, ?_⟩
    · have hm0 : m = 0 := by omega
      have hl0 : l = 0 := by omega
      have hh0 : hh = 0 := by omega
      subst hm0 hl0 hh0
      rw [hv]
      simp only [Instr.sliceAt, Sem.run_bind, run_underlying ht, Result.andThen_ok, Instr.slice, hb, run_sizeOf' hn]
      simp
    · simp only [VRel]
      exact ⟨by show hh - l = 0; omega, by show m - l = 0; omega, trivial⟩
  | some q =>
    obtain ⟨b, o⟩ := q
    simp only [VRel] at hr
    obtain ⟨q, cap', hv, k1, k2, k3, pl, hpl, k4⟩ := hr
    obtain ⟨hb, hl, hh', hm⟩ := sliceBounds_run (P := P) (w := w) (isSlice := true) k1 k2 (optRel h h1) (optRel h h2) (optRel h h3) e1 e2 e3 hmh
    cases hn' : Nat.beq n esz' with
    | false => simp only [hn'] at ha; cases ha
    | true =>
      simp only [hn'] at ha
      cases ha
      have hne := Nat.eq_of_beq_eq_true hn'
      subst hne
      let M := if (optEv mx' ts).isSome then m else cap'
      have hM : M = if (optEv mx' ts).isSome then m else cap' := rfl
      have hMm : m ≤ M := by rw [hM]; split <;> omega
      have hMc : M ≤ cap' := by rw [hM]; split <;> omega
      have hMe : ((ex || (optEv mx' ts).isSome) = true) → M = m := by
        intro he
        rw [hM]
        split
        · rfl
        · rename_i hns
          have hns' : (optEv mx' ts).isSome = false := by simpa using hns
          rw [hns', Bool.or_false] at he
          have := k3 he
          have hmn : optEv mx' ts = none := by cases hq : optEv mx' ts with | none => rfl | some _ => rw [hq] at hns'; cases hns'
          rw [hmn] at e1
          simp [bound] at e1
          omega
      refine ⟨.slice (some (if M = l then q else q.add (l * n))) (hh - l) (M - l), ?_, ?_⟩
      · rw [hv]
        simp only [Instr.sliceAt, Sem.run_bind, run_underlying ht, Result.andThen_ok, Instr.slice, hb, run_sizeOf' hn, Sem.run_pure, ← hM]
        by_cases hml : M = l
        · simp [hml]
        · simp [hml]
      · simp only [VRel]
        refine ⟨_, M - l, rfl, ?_, ?_, ?_, pl, hpl, ?_⟩
        · show hh - l ≤ m - l
          omega
        · show m - l ≤ M - l
          omega
        · intro he
          show M - l = m - l
          rw [hMe he]
        · by_cases hml : M = l
          · left; omega
          · right
            rcases k4 with k4 | ⟨k4, k5⟩
            · exfalso; omega
            · rw [if_neg hml, k4, addr_add]
              refine ⟨by show (⟨pl.p, pl.o + o + l * n, none⟩ : Addr) = ⟨pl.p, pl.o + (o + l * n), none⟩; rw [Nat.add_assoc], ?_⟩
              rcases k5 with k5 | k5
              · left; rw [k5]; rfl
              · right
                show o + l * n + (M - l) * n ≤ pl.room
                have : l * n + (M - l) * n = M * n := by rw [← Nat.add_mul]; congr 1; omega
                have : M * n ≤ cap' * n := Nat.mul_le_mul_right _ hMc
                omega

theorem good_sliceArr (r : Rel μ σ w) (h : HOpd P μ ts ρ) {t e : TypeId} {len : Nat} (ht : P.underlying t = some (.array len e)) {n : Nat} (hn : sizeAt P e = some n) {x : Operand} {x' : Opd} (hx : compOpd P x = some x')
    {lo hi : Option Operand} {lo' hi' : Option Opd} (h1 : compOpt P lo = some lo') (h2 : compOpt P hi = some hi') :
    Good μ σ w (oSliceArr len n x' lo' hi' ts σ) ((do pure (Next.value (← Instr.sliceAt t (ρ x) (lo.map ρ) (hi.map ρ) none)) : Sem Next).run P w) := by
  have hr := h _ _ hx
  unfold oSliceArr
  refine Good.of r fun av ha => ?_
  unfold sliceArrA at ha
  split at ha
  case h_2 => cases ha
  rename_i b o e0
  rw [e0] at hr
  obtain ⟨pl, hpl, hv⟩ := hr.ptr
  split at ha
  case h_1 => cases ha
  rename_i hh e2
  split at ha
  case h_1 => cases ha
  rename_i l e3
  cases ha
  obtain ⟨hb, hl, hh', hm⟩ := sliceBounds_run (P := P) (w := w) (isSlice := false) (mx := none) (mx' := none) (Nat.le_refl len) (Nat.le_refl len) (optRel h h1) (optRel h h2) trivial (by rfl) e2 e3 (by simp)
  simp only [Option.isSome_none] at hb
  refine ⟨.slice (some (if len = l then ⟨pl.p, pl.o + o, none⟩ else (⟨pl.p, pl.o + o, none⟩ : Addr).add (l * n))) (hh - l) (len - l), ?_, ?_⟩
  · rw [hv]
    simp only [Instr.sliceAt, Instr.sureAddr, Sem.run_bind, run_underlying ht, Result.andThen_ok, hb, run_sizeOf' hn, Sem.run_pure]
    simp
  · simp only [VRel]
    refine ⟨_, len - l, rfl, ?_, Nat.le_refl _, fun _ => rfl, pl, hpl, ?_⟩
    · show hh - l ≤ len - l
      omega
    · by_cases hml : len = l
      · left; omega
      · right
        rw [if_neg hml, addr_add]
        exact ⟨by show (⟨pl.p, pl.o + o + l * n, none⟩ : Addr) = ⟨pl.p, pl.o + (o + l * n), none⟩; rw [Nat.add_assoc], .inl trivial⟩

theorem good_sliceStr (r : Rel μ σ w) (h : HOpd P μ ts ρ) {t : TypeId} (ht : P.underlying t = some .string) {x : Operand} {x' : Opd} (hx : compOpd P x = some x')
    {lo hi : Option Operand} {lo' hi' : Option Opd} (h1 : compOpt P lo = some lo') (h2 : compOpt P hi = some hi') :
    Good μ σ w (oSliceStr x' lo' hi' ts σ) ((do pure (Next.value (← Instr.sliceAt t (ρ x) (lo.map ρ) (hi.map ρ) none)) : Sem Next).run P w) := by
  have hr := h _ _ hx
  unfold oSliceStr
  refine Good.of r fun av ha => ?_
  unfold sliceStrA at ha
  split at ha
  case h_2 => cases ha
  rename_i s e0
  rw [e0] at hr
  have hv := hr.str
  split at ha
  case h_1 => cases ha
  rename_i hh e2
  split at ha
  case h_1 => cases ha
  rename_i l e3
  split at ha
  case h_1 => cases ha
  rename_i s' hs'
  cases ha
  have hsz : (⟨s.toArray⟩ : ByteArray).size = len s := by rw [len_eq]; simp [ByteArray.size]
  obtain ⟨hb, hl, hh', hm⟩ := sliceBounds_run (P := P) (w := w) (isSlice := false) (mx := none) (mx' := none) (Nat.le_refl (len s)) (Nat.le_refl (len s)) (optRel h h1) (optRel h h2) trivial (by rfl) e2 e3 (by simp)
  simp only [Option.isSome_none] at hb
  obtain ⟨hs1, _⟩ := subN?_some hs'
  refine ⟨.string ⟨s'.toArray⟩, ?_, VRel.mkStr _⟩
  rw [hv]
  simp only [Instr.sliceAt, Sem.run_bind, run_underlying ht, Result.andThen_ok, Instr.slice, Option.isSome_none, hsz]
  simp only [Bool.false_eq_true, if_false, Sem.run_bind, Sem.run_pure, Result.andThen_ok, hb]
  rw [ByteArray.extract_mk, hs1]
  rfl

end
end Go.Ab
