/- Operations, one by one. Part H: places, parts, lengths, panics, deferred calls. -/
import Derived.Test.YtgiebkbbnjnplaaGreatDoorAbOpsG
namespace Go.Ab
section
variable {P : Program} {μ : Mu} {σ : Heap} {w : World} {ts : Tmps} {ρ : Operand → Value}

theorem good_fieldAddr (r : Rel μ σ w) (h : HOpd P μ ts ρ) {s : TypeId} {fs : Array Field} (hs : P.underlying s = some (.struct fs)) {f : Nat} {fd : Field} (hf : fs[f]? = some fd) {n : Nat} (hn : sizeAt P fd.type = some n) (hn0 : n ≠ 0)
    {x : Operand} {x' : Opd} (hx : compOpd P x = some x') :
    Good μ σ w (oFieldAddr fd.offset x' ts σ) ((do pure (Next.value (← Instr.fieldAt s (ρ x) f)) : Sem Next).run P w) := by
  have hr := h _ _ hx
  unfold oFieldAddr
  split
  · rename_i b o e
    rw [e] at hr
    obtain ⟨pl, hpl, hv⟩ := hr.ptr
    refine Good.val r (x := .pointer (some ⟨pl.p, pl.o + (o + fd.offset), none⟩)) ?_ (by simp only [VRel]; exact ⟨pl, hpl, rfl⟩)
    rw [hv]
    simp only [Instr.fieldAt, Sem.run_bind, run_underlying hs, Result.andThen_ok, hf, Instr.sureAddr, Sem.run_pure, fieldPlace, run_sizeOf' hn]
    rw [if_neg hn0]
    simp [addr_add, Nat.add_assoc]
  · trivial

/-- A part of an aggregate. -/
theorem run_part {t : TypeId} {n : Option Nat} (hn : laidAs P t = some n) {as : List AVal} {c : Array Value} (hr : VRels μ as c.toList) {off : Nat} {a : AVal} (ha : partA n as off = some a) :
    ∃ x, (part t c off).run P w = .ok x w ∧ VRel μ a x := by
  unfold partA at ha
  split at ha
  · rw [nth?_eq] at ha
    obtain ⟨v, hv, hvr⟩ := hr.get _ _ ha
    refine ⟨v, ?_, hvr⟩
    have hv' : c[off]? = some v := by simpa using hv
    simp [part, laidAs_none hn, hv']
  · rename_i k
    split at ha
    · rename_i rs hrs
      cases ha
      obtain ⟨e0, _⟩ := subN?_some hrs
      obtain ⟨g1, g2⟩ := laidAs_some (w := w) hn
      refine ⟨.agg (c.extract off (off + k)), by simp [part, g1, run_sizeOf' g2], ?_⟩
      simp only [VRel]
      refine ⟨_, rfl, ?_⟩
      rw [e0]
      have := (hr.drop off).take k
      simpa [Array.toList_extract, List.extract_eq_take_drop] using this
    · cases ha

theorem good_field (r : Rel μ σ w) (h : HOpd P μ ts ρ) {t : TypeId} {fs : Array Field} (ht : P.underlying t = some (.struct fs)) {f : Nat} {fd : Field} (hf : fs[f]? = some fd) {n : Option Nat} (hn : laidAs P fd.type = some n)
    {x : Operand} {x' : Opd} (hx : compOpd P x = some x') :
    Good μ σ w (oField fd.offset n x' ts σ) ((do pure (Next.value (← Instr.field t (ρ x) f)) : Sem Next).run P w) := by
  have hr := h _ _ hx
  unfold oField
  split
  · rename_i cs e
    rw [e] at hr
    simp only [VRel] at hr
    obtain ⟨c, hv, hr⟩ := hr
    refine Good.of r fun a ha => ?_
    obtain ⟨y, hy, hyr⟩ := run_part (P := P) (w := w) hn hr ha
    refine ⟨y, ?_, hyr⟩
    rw [hv]
    simp [Instr.field, run_underlying ht, hf, asAgg, hy]
  · trivial

theorem good_indexAddr (r : Rel μ σ w) (h : HOpd P μ ts ρ) {t e : TypeId} (ht : P.underlying t = some (.slice e)) {n : Nat} (hn : sizeAt P e = some n) {x i : Operand} {x' i' : Opd} (hx : compOpd P x = some x') (hi : compOpd P i = some i') :
    Good μ σ w (oIndexAddr n x' i' ts σ) ((do pure (Next.value (← Instr.indexAt t (ρ x) (ρ i))) : Sem Next).run P w) := by
  have hrx := h _ _ hx
  have hri := h _ _ hi
  unfold oIndexAddr
  split
  · rename_i b o ln cap ex esz' k j e1 e2
    rw [e1] at hrx
    rw [e2] at hri
    cases hb : (Nat.beq esz' n && Nat.ble (Nat.succ j) ln) with
    | false => trivial
    | true =>
      simp only [Bool.and_eq_true] at hb
      obtain ⟨b1, b2⟩ := hb
      have b1 := Nat.eq_of_beq_eq_true b1
      subst b1
      have b2 : j + 1 ≤ ln := Nat.le_of_ble_eq_true b2
      simp only [VRel] at hrx
      obtain ⟨q, cap', hv, k1, k2, k3, pl, hpl, k4⟩ := hrx
      rcases k4 with k4 | ⟨k4, _⟩
      · omega
      · refine Good.val r (x := .pointer (some ⟨pl.p, pl.o + (o + j * esz'), none⟩)) ?_ (by simp only [VRel]; exact ⟨pl, hpl, rfl⟩)
        rw [hv, hri.int, k4]
        simp only [Instr.indexAt, asIntOf, Sem.run_bind, Sem.run_pure, Result.andThen_ok, run_underlying ht]
        rw [if_pos (by simp; omega)]
        simp [run_sizeOf' hn, addr_add, Nat.add_assoc]
  · trivial

theorem good_indexArr (r : Rel μ σ w) (h : HOpd P μ ts ρ) {t e : TypeId} {ln : Nat} (ht : P.underlying t = some (.array ln e)) {n : Nat} (hn : sizeAt P e = some n) {x i : Operand} {x' i' : Opd} (hx : compOpd P x = some x') (hi : compOpd P i = some i') :
    Good μ σ w (oIndexArr ln n x' i' ts σ) ((do pure (Next.value (← Instr.indexAt t (ρ x) (ρ i))) : Sem Next).run P w) := by
  have hrx := h _ _ hx
  have hri := h _ _ hi
  unfold oIndexArr
  split
  · rename_i b o k j e1 e2
    rw [e1] at hrx
    rw [e2] at hri
    cases hb : Nat.ble (Nat.succ j) ln with
    | false => trivial
    | true =>
      have b2 : j + 1 ≤ ln := Nat.le_of_ble_eq_true hb
      obtain ⟨pl, hpl, hv⟩ := hrx.ptr
      refine Good.val r (x := .pointer (some ⟨pl.p, pl.o + (o + j * n), none⟩)) ?_ (by simp only [VRel]; exact ⟨pl, hpl, rfl⟩)
      rw [hv, hri.int]
      simp only [Instr.indexAt, asIntOf, Sem.run_bind, Sem.run_pure, Result.andThen_ok, run_underlying ht, Instr.sureAddr]
      rw [if_pos (by simp; omega)]
      simp [run_sizeOf' hn, addr_add, Nat.add_assoc]
  · trivial

theorem good_index (r : Rel μ σ w) (h : HOpd P μ ts ρ) {t e : TypeId} {ln : Nat} (ht : P.underlying t = some (.array ln e)) {n : Option Nat} (hl : laidAs P e = some n) {s : Nat} (hn : sizeAt P e = some s) {x i : Operand} {x' i' : Opd} (hx : compOpd P x = some x') (hi : compOpd P i = some i') :
    Good μ σ w (oIndex ln s n x' i' ts σ) ((do pure (Next.value (← Instr.index t (ρ x) (ρ i))) : Sem Next).run P w) := by
  have hrx := h _ _ hx
  have hri := h _ _ hi
  unfold oIndex
  split
  · rename_i cs k j e1 e2
    rw [e1] at hrx
    rw [e2] at hri
    cases hb : Nat.ble (Nat.succ j) ln with
    | false => trivial
    | true =>
      have b2 : j + 1 ≤ ln := Nat.le_of_ble_eq_true hb
      simp only [VRel] at hrx
      obtain ⟨c, hv, hrx⟩ := hrx
      refine Good.of r fun a ha => ?_
      obtain ⟨y, hy, hyr⟩ := run_part (P := P) (w := w) hl hrx ha
      refine ⟨y, ?_, hyr⟩
      rw [hv, hri.int]
      simp only [Instr.index, asIntOf, Sem.run_bind, Sem.run_pure, Result.andThen_ok, run_underlying ht]
      rw [if_pos (by simp; omega)]
      have hy' : (part e c (j * s)).run P w = .ok y w := hy
      simp [run_sizeOf' hn, hy']
  · trivial

theorem byteVal_rel (c : UInt8) : VRel μ (byteVal c) (.int .u8 c.toNat) := by
  simp only [byteVal, VRel]
  rfl

theorem good_indexStr (r : Rel μ σ w) (h : HOpd P μ ts ρ) {t : TypeId} (ht : P.underlying t = some .string) {x i : Operand} {x' i' : Opd} (hx : compOpd P x = some x') (hi : compOpd P i = some i') :
    Good μ σ w (oIndexStr x' i' ts σ) ((do pure (Next.value (← Instr.index t (ρ x) (ρ i))) : Sem Next).run P w) := by
  have hrx := h _ _ hx
  have hri := h _ _ hi
  unfold oIndexStr
  split
  · rename_i s k j e1 e2
    rw [e1] at hrx
    rw [e2] at hri
    split
    · rename_i c hc
      rw [nth?_eq] at hc
      refine Good.val r (x := .int .u8 c.toNat) ?_ (byteVal_rel c)
      rw [hrx.str, hri.int]
      have hlt : j < s.length := (List.getElem?_eq_some_iff.1 hc).1
      have hg : (⟨s.toArray⟩ : ByteArray)[j]? = some c := by
        rw [getElem?_pos (⟨s.toArray⟩ : ByteArray) j (by simpa [ByteArray.size] using hlt)]
        have : (⟨s.toArray⟩ : ByteArray)[j]'(by simpa [ByteArray.size] using hlt) = s[j] := rfl
        rw [this, (List.getElem?_eq_some_iff.1 hc).2]
      simp only [Instr.index, asIntOf, Sem.run_bind, Sem.run_pure, Result.andThen_ok, run_underlying ht]
      simp [hg]
    · trivial
  · trivial

theorem good_extract (r : Rel μ σ w) (h : HOpd P μ ts ρ) {x : Operand} {x' : Opd} (hx : compOpd P x = some x') (i : Nat) :
    Good μ σ w (oExtract x' i ts σ) ((do pure (Next.value (← Instr.extract (ρ x) i)) : Sem Next).run P w) := by
  have hrx := h _ _ hx
  unfold oExtract
  split
  · rename_i vs e1
    rw [e1] at hrx
    simp only [VRel] at hrx
    obtain ⟨c, hv, hrx⟩ := hrx
    refine Good.of r fun a ha => ?_
    rw [nth?_eq] at ha
    obtain ⟨v, hv', hvr⟩ := hrx.get _ _ ha
    have hv'' : c[i]? = some v := by simpa using hv'
    refine ⟨v, ?_, hvr⟩
    rw [hv]
    simp [Instr.extract, hv'']
  · trivial

theorem lenA_rel {a : AVal} {v : Value} (h : VRel μ a v) {n : Nat} (hn : lenA a = some n) : (∃ q c, v = .slice q n c) ∨ (∃ s : ByteArray, v = .string s ∧ s.size = n) := by
  unfold lenA at hn
  split at hn
  · rename_i q ln c ex esz
    cases hn
    left
    cases q with
    | none => simp only [VRel] at h; obtain ⟨rfl, _, h⟩ := h; exact ⟨_, _, h⟩
    | some q => obtain ⟨b, o⟩ := q; simp only [VRel] at h; obtain ⟨q, cap', h, _⟩ := h; exact ⟨_, _, h⟩
  · rename_i s
    cases hn
    right
    exact ⟨_, h.str, by rw [len_eq]; simp [ByteArray.size]⟩
  · cases hn

theorem good_len (r : Rel μ σ w) (h : HOpd P μ ts ρ) {argTypes : Array TypeId} {ty t e : TypeId} (h0 : argTypes[0]? = some t) (ht : P.underlying t = some (.slice e)) {x : Operand} {x' : Opd} (hx : compOpd P x = some x') :
    Good μ σ w (oLen x' ts σ) ((do pure (Next.value (← Builtin.len_ argTypes ty #[ρ x])) : Sem Next).run P w) := by
  have hrx := h _ _ hx
  unfold oLen
  split
  · rename_i q n c ex z e1
    rw [e1] at hrx
    have hl := lenA_rel (n := n) hrx rfl
    rcases hl with ⟨q', c', hv⟩ | ⟨s, hv, _⟩
    · refine Good.val r (x := .int .i64 (Int.ofNat n)) ?_ (VRel.mkInt _ _)
      rw [hv]
      simp [Builtin.len_, h0, run_underlying ht, goInt]
    · exfalso
      cases q with
      | none => simp only [VRel] at hrx; rw [hrx.2.2] at hv; cases hv
      | some q => obtain ⟨b, o⟩ := q; simp only [VRel] at hrx; obtain ⟨_, _, hv', _⟩ := hrx; rw [hv'] at hv; cases hv
  · trivial

theorem good_lenStr (r : Rel μ σ w) (h : HOpd P μ ts ρ) {argTypes : Array TypeId} {ty t : TypeId} (h0 : argTypes[0]? = some t) (ht : P.underlying t = some .string) {x : Operand} {x' : Opd} (hx : compOpd P x = some x') :
    Good μ σ w (oLenStr x' ts σ) ((do pure (Next.value (← Builtin.len_ argTypes ty #[ρ x])) : Sem Next).run P w) := by
  have hrx := h _ _ hx
  unfold oLenStr
  split
  · rename_i s e1
    rw [e1] at hrx
    refine Good.val r (x := .int .i64 (Int.ofNat (len s))) ?_ (VRel.mkInt _ _)
    rw [hrx.str]
    have : (⟨s.toArray⟩ : ByteArray).size = len s := by rw [len_eq]; simp [ByteArray.size]
    simp [Builtin.len_, h0, run_underlying ht, goInt, this]
  · trivial

theorem good_lenMap (r : Rel μ σ w) (h : HOpd P μ ts ρ) {argTypes : Array TypeId} {ty t k e : TypeId} (h0 : argTypes[0]? = some t) (ht : P.underlying t = some (.map k e)) {x : Operand} {x' : Opd} (hx : compOpd P x = some x') :
    Good μ σ w (oLenMap x' ts σ) ((do pure (Next.value (← Builtin.len_ argTypes ty #[ρ x])) : Sem Next).run P w) := by
  have hrx := h _ _ hx
  unfold oLenMap
  split
  · rename_i e1
    rw [e1] at hrx
    simp only [VRel] at hrx
    refine Good.val r (x := .int .i64 0) ?_ (VRel.mkInt _ _)
    rw [hrx]
    simp [Builtin.len_, h0, run_underlying ht, goInt]
  · rename_i q e1
    rw [e1] at hrx
    simp only [VRel] at hrx
    obtain ⟨m, hm, hv⟩ := hrx
    split
    · rename_i es hes
      obtain ⟨m', hm', ho⟩ := r.objs _ _ hes
      rw [hm] at hm'
      cases hm'
      obtain ⟨_, es', clk, g1, g2, _⟩ := ho
      refine Good.val r (x := .int .i64 (Int.ofNat (len es))) ?_ (VRel.mkInt _ _)
      rw [hv, len_eq, ← g2]
      simp [Builtin.len_, h0, run_underlying ht, goInt, getObj, Sem.run, g1]
    · trivial
  · trivial

theorem good_lenConst (r : Rel μ σ w) {argTypes : Array TypeId} {ty t : TypeId} (h0 : argTypes[0]? = some t) {n : Nat} (ht : (∃ e, P.underlying t = some (.array n e)) ∨ ∃ a e, P.underlying t = some (.pointer a) ∧ P.underlying a = some (.array n e)) (x : Operand) :
    Good μ σ w (oLenConst n ts σ) ((do pure (Next.value (← Builtin.len_ argTypes ty #[ρ x])) : Sem Next).run P w) := by
  refine Good.val r (x := .int .i64 (Int.ofNat n)) ?_ (VRel.mkInt _ _)
  rcases ht with ⟨e, ht⟩ | ⟨a, e, ht, ha⟩
  · simp [Builtin.len_, h0, run_underlying ht, goInt]
  · simp [Builtin.len_, h0, run_underlying ht, run_underlying ha, goInt]

theorem good_cap (r : Rel μ σ w) (h : HOpd P μ ts ρ) {argTypes : Array TypeId} {ty t e : TypeId} (h0 : argTypes[0]? = some t) (ht : P.underlying t = some (.slice e)) {x : Operand} {x' : Opd} (hx : compOpd P x = some x') :
    Good μ σ w (oCap x' ts σ) ((do pure (Next.value (← Builtin.cap_ argTypes ty #[ρ x])) : Sem Next).run P w) := by
  have hrx := h _ _ hx
  unfold oCap
  split
  · rename_i q n c z e1
    rw [e1] at hrx
    refine Good.val r (x := .int .i64 (Int.ofNat c)) ?_ (VRel.mkInt _ _)
    cases q with
    | none =>
      simp only [VRel] at hrx
      obtain ⟨_, rfl, hv⟩ := hrx
      rw [hv]
      simp [Builtin.cap_, h0, run_underlying ht, goInt]
    | some q =>
      obtain ⟨b, o⟩ := q
      simp only [VRel] at hrx
      obtain ⟨_, cap', hv, _, _, k3, _⟩ := hrx
      rw [hv, k3 trivial]
      simp [Builtin.cap_, h0, run_underlying ht, goInt]
  · trivial

theorem intLe_iff {a b : Int} : intLe a b = true ↔ a ≤ b := by
  cases a <;> cases b <;> simp [intLe, ble_iff] <;> omega

theorem good_min (r : Rel μ σ w) (h : HOpd P μ ts ρ) {argTypes : Array TypeId} {ty : TypeId} {x y : Operand} {x' y' : Opd} (hx : compOpd P x = some x') (hy : compOpd P y = some y') :
    Good μ σ w (oMin x' y' ts σ) ((do pure (Next.value (← Builtin.min_ argTypes ty #[ρ x, ρ y])) : Sem Next).run P w) := by
  have hrx := h _ _ hx
  have hry := h _ _ hy
  unfold oMin
  split
  · rename_i k a k' b e1 e2
    rw [e1] at hrx
    rw [e2] at hry
    refine Good.val r (x := .int k (if b < a then b else a)) ?_ ?_
    · rw [hrx.int, hry.int]
      simp [Builtin.min_, Builtin.min2]
    · cases hl : intLe a b with
      | true => rw [if_neg (by have := intLe_iff.1 hl; omega)]; exact VRel.mkInt _ _
      | false =>
        rw [if_pos (by have : ¬ a ≤ b := fun hh => by rw [intLe_iff.2 hh] at hl; cases hl
                       omega)]
        exact VRel.mkInt _ _
  · trivial

theorem good_max (r : Rel μ σ w) (h : HOpd P μ ts ρ) {argTypes : Array TypeId} {ty : TypeId} {x y : Operand} {x' y' : Opd} (hx : compOpd P x = some x') (hy : compOpd P y = some y') :
    Good μ σ w (oMax x' y' ts σ) ((do pure (Next.value (← Builtin.max_ argTypes ty #[ρ x, ρ y])) : Sem Next).run P w) := by
  have hrx := h _ _ hx
  have hry := h _ _ hy
  unfold oMax
  split
  · rename_i k a k' b e1 e2
    rw [e1] at hrx
    rw [e2] at hry
    refine Good.val r (x := .int k (if b > a then b else a)) ?_ ?_
    · rw [hrx.int, hry.int]
      simp [Builtin.max_, Builtin.max2]
    · cases hl : intLe b a with
      | true => rw [if_neg (by have := intLe_iff.1 hl; omega)]; exact VRel.mkInt _ _
      | false =>
        rw [if_pos (by have : ¬ b ≤ a := fun hh => by rw [intLe_iff.2 hh] at hl; cases hl
                       omega)]
        exact VRel.mkInt _ _
  · trivial

theorem good_panic (r : Rel μ σ w) (h : HOpd P μ ts ρ) {x : Operand} {x' : Opd} (hx : compOpd P x = some x') :
    Good μ σ w (oPanic x' ts σ) ((do pure (Next.value (← Instr.panic (ρ x))) : Sem Next).run P w) := by
  have hrx := h _ _ hx
  unfold oPanic
  split
  · rename_i t v e1
    rw [e1] at hrx
    refine ⟨ρ x, ?_, rfl, hrx⟩
    simp only [VRel] at hrx
    obtain ⟨y, hv, _⟩ := hrx
    rw [hv]
    simp [Instr.panic, goPanic, Sem.run]
  · trivial

end
end Go.Ab
