/- Operations, one by one: what the model does is what the abstract operation says. Part A. -/
import Derived.Test.YtgiebkbbnjnplaaGreatDoorAbHeap
import Derived.Test.YtgiebkbbnjnplaaGreatDoorAbComp
import Derived.Laws.Entries
namespace Go.Ab

/-- The operands of an operation stand for the model's. -/
def HOpd (P : Program) (μ : Mu) (ts : Tmps) (ρ : Operand → Value) : Prop := ∀ x y, compOpd P x = some y → VRel μ (y.ev ts) (ρ x)

/-- What an operation comes to, under the model and abstractly. -/
def Good (μ : Mu) (σ : Heap) (w : World) (out : Out) (res : Result Next) : Prop :=
  match out with
  | .val v σ' => ∃ μ' w' x, (res = .ok (.value x) w' ∨ (res = .ok .skip w' ∧ x = Go.undef)) ∧ Rel μ' σ' w' ∧ Ext μ σ w μ' σ' w' ∧ VRel μ' v x
  | .panic v σ' => ∃ x, res = .halt (.panic x) w ∧ σ' = σ ∧ VRel μ v x
  | .defr f args σ' => ∃ as caps, res = .ok (.defer { target := .fn (.func f) caps, args := as }) w ∧ σ' = σ ∧ VRels μ args (as.toList ++ caps.toList)
  | .fail => True

section
variable {P : Program} {μ : Mu} {σ : Heap} {w : World} {ts : Tmps} {ρ : Operand → Value}

theorem Good.val (r : Rel μ σ w) {res : Result Next} {v : AVal} {x : Value} (h : res = .ok (.value x) w) (hv : VRel μ v x) : Good μ σ w (.val v σ) res :=
  ⟨μ, w, x, .inl h, r, .refl _ _ _, hv⟩

theorem Good.of (r : Rel μ σ w) {res : Result Next} {v : Option AVal} (h : ∀ a, v = some a → ∃ x, res = .ok (.value x) w ∧ VRel μ a x) : Good μ σ w (.of v σ) res := by
  cases v with
  | none => trivial
  | some a =>
    obtain ⟨x, e, hv⟩ := h a rfl
    exact Good.val r e hv

theorem hopds (h : HOpd P μ ts ρ) {xs : Array Operand} {ys : List Opd} (hc : compOpds P xs = some ys) : VRels μ (evs ys ts) (xs.map ρ).toList := by
  unfold compOpds at hc
  obtain ⟨hl, hi⟩ := mapO_some _ _ _ hc
  have evs_get : ∀ (l : List Opd) (i : Nat), (evs l ts)[i]? = (l[i]?).map (·.ev ts) := by
    intro l
    induction l with
    | nil => intro i; simp [evs]
    | cons a l ih =>
      intro i
      cases i with
      | zero => rfl
      | succ i => simpa [evs] using ih i
  have evs_len : ∀ l : List Opd, (evs l ts).length = l.length := by
    intro l
    induction l with
    | nil => rfl
    | cons a l ih => simpa [evs] using ih
  refine VRels.of (by rw [evs_len, hl]; simp) fun i a ha => ?_
  rw [evs_get] at ha
  cases hy : ys[i]? with
  | none => rw [hy] at ha; cases ha
  | some y =>
    rw [hy] at ha
    cases ha
    have hlt : i < xs.size := by have := (List.getElem?_eq_some_iff.1 hy).1; rw [hl] at this; simpa using this
    have hx : xs.toList[i]? = some xs[i] := by simp [hlt]
    obtain ⟨b, hb, hb'⟩ := hi i _ hx
    rw [hy] at hb'
    cases hb'
    refine ⟨ρ xs[i], by simp [hlt], h _ _ hb⟩

/-! Inversions: the model's value, known from the abstract one. -/

theorem VRel.bool {b : Bool} {v : Value} (h : VRel μ (.bool b) v) : v = .bool b := by simpa only [VRel] using h
theorem VRel.int {k : IntKind} {n : Int} {v : Value} (h : VRel μ (.int k n) v) : v = .int k n := by simpa only [VRel] using h
theorem VRel.str {s : List UInt8} {v : Value} (h : VRel μ (.str s) v) : v = .string ⟨s.toArray⟩ := by simpa only [VRel] using h
theorem VRel.ptr {b o : Nat} {v : Value} (h : VRel μ (.ptr (some (b, o))) v) : ∃ m, μ b = some m ∧ v = .pointer (some ⟨m.p, m.o + o, none⟩) := by simpa only [VRel] using h
theorem VRel.mkBool (b : Bool) : VRel μ (.bool b) (.bool b) := by simp only [VRel]
theorem VRel.mkInt (k : IntKind) (n : Int) : VRel μ (.int k n) (.int k n) := by simp only [VRel]
theorem VRel.mkStr (s : List UInt8) : VRel μ (.str s) (.string ⟨s.toArray⟩) := by simp only [VRel]

/-! Simple operations. -/

theorem good_move (r : Rel μ σ w) (h : HOpd P μ ts ρ) {x : Operand} {y : Opd} (hc : compOpd P x = some y) : Good μ σ w (oMove y ts σ) (.ok (.value (ρ x)) w) :=
  Good.val r rfl (h _ _ hc)

theorem good_pick (r : Rel μ σ w) (h : HOpd P μ ts ρ) {c a b : Operand} {c' a' b' : Opd} (hc : compOpd P c = some c') (ha : compOpd P a = some a') (hb : compOpd P b = some b') :
    Good μ σ w (oPick c' a' b' ts σ) ((do pure (Next.value (if ← asBool (ρ c) then ρ a else ρ b)) : Sem Next).run P w) := by
  have hr := h _ _ hc
  unfold oPick
  split
  · rename_i e
    rw [e] at hr
    rw [hr.bool]
    exact Good.val r (by simp [asBool]) (h _ _ ha)
  · rename_i e
    rw [e] at hr
    rw [hr.bool]
    exact Good.val r (by simp [asBool]) (h _ _ hb)
  · trivial

/-- The cells of a zero value. -/
theorem zeroCellsOf_some {t : TypeId} {z : List AVal} (h : zeroCellsOf P t = some z) (μ : Mu) :
    ∃ i v, P.info? t = some i ∧ i.zero = some v ∧ VRels μ z v.cells.toList ∧ z.length = i.size ∧ (∀ a ∈ z, a.oneCell = true) := by
  unfold zeroCellsOf at h
  split at h
  · rename_i i hi
    split at h
    · rename_i v hv
      split at h
      · rename_i a ha
        split at h
        · rename_i hc
          cases h
          simp only [Bool.and_eq_true, decide_eq_true_eq] at hc
          exact ⟨i, v, hi, hv, (ofValue_rel μ _ _ _ ha).cells, hc.1, by simpa using hc.2⟩
        · cases h
      · cases h
    · cases h
  · cases h

theorem run_zeroValue {t : TypeId} {i : TypeInfo} {v : Value} (hi : P.info? t = some i) (hz : i.zero = some v) : (zeroValue t).run P w = .ok v w := by
  simp [zeroValue, typeInfo, hi, hz]

theorem run_sizeOf' {t : TypeId} {n : Nat} (h : sizeAt P t = some n) : (sizeOf t).run P w = .ok n w := by
  unfold sizeAt at h
  cases hi : P.info? t with
  | none => rw [hi] at h; cases h
  | some i =>
    rw [hi] at h
    cases h
    simp [sizeOf, typeInfo, hi]

/-- A new row of cells. -/
theorem Rel.newCells (r : Rel μ σ w) (e : TypeId) {cs : List AVal} {c : Array Value} (hr : VRels μ cs (c.toList.take cs.length)) (hl : cs.length ≤ c.size) (h1 : ∀ a ∈ cs, a.oneCell = true) :
    ∃ μ', Rel μ' (σ.new (.cells cs)) { w with heap := w.heap.push (.cells c e) } ∧ Ext μ σ w μ' (σ.new (.cells cs)) { w with heap := w.heap.push (.cells c e) } ∧ μ' σ.next = some ⟨w.heap.size, 0, c.size⟩ := by
  have hle : μ.le (μ.put σ.next ⟨w.heap.size, 0, c.size⟩) := Mu.put_le _ (r.fresh _ (Nat.le_refl _))
  obtain ⟨a, b⟩ := r.new (.cells cs) (.cells c e) ⟨w.heap.size, 0, c.size⟩ rfl
    ⟨c, e, 0, 0, by simp, by simp, hl, by simpa using hr.mono hle, h1, .inl (Nat.le_refl _)⟩
  exact ⟨_, a, b, by simp [Mu.put]⟩

theorem good_alloc (r : Rel μ σ w) {t : TypeId} {z : List AVal} (hz : zeroCellsOf P t = some z) :
    Good μ σ w (oAlloc z ts σ) ((do pure (Next.value (← Instr.alloc t true (.tuple #[]))) : Sem Next).run P w) := by
  obtain ⟨i, v, hi, hv, hr, hl, h1⟩ := zeroCellsOf_some hz μ
  have hlen : v.cells.size = z.length := by simpa using hr.length
  obtain ⟨μ', a, b, e⟩ := r.newCells t (c := v.cells) (by rw [List.take_of_length_le (by simp [hlen])]; exact hr) (by omega) h1
  refine ⟨μ', _, .pointer (some ⟨w.heap.size, 0, none⟩), .inl ?_, a, b, ?_⟩
  · simp [Instr.alloc, run_zeroValue hi hv, newVar, newRow]
  · simp only [VRel]
    exact ⟨_, e, rfl⟩

theorem good_box (r : Rel μ σ w) (h : HOpd P μ ts ρ) {t : TypeId} {x : Operand} {y : Opd} (hc : compOpd P x = some y) :
    Good μ σ w (oBox y ts σ) ((do pure (Next.value (← Instr.box t (ρ x))) : Sem Next).run P w) := by
  unfold oBox
  cases h1 : allOne (y.ev ts).cells with
  | false => trivial
  | true =>
    have hr := (h _ _ hc).cells
    have hlen : (ρ x).cells.size = (y.ev ts).cells.length := by simpa using hr.length
    obtain ⟨μ', a, b, e⟩ := r.newCells t (c := (ρ x).cells) (by rw [List.take_of_length_le (by simp [hlen])]; exact hr) (by omega) (allOne_eq _ h1)
    refine ⟨μ', _, .pointer (some ⟨w.heap.size, 0, none⟩), .inl ?_, a, b, ?_⟩
    · simp [Instr.box, newVar, newRow]
    · simp only [VRel]
      exact ⟨_, e, rfl⟩

theorem laidAs_none {t : TypeId} (h : laidAs P t = some none) : (isAgg t).run P w = .ok false w := by
  unfold laidAs at h
  split at h
  · cases h
  · cases h
  · rename_i d h1 h2 hd hs
    have := run_underlying (w := w) hd
    simp only [isAgg, Sem.run_bind, this, Result.andThen_ok]
    cases d with
    | struct fs => exact (h1 _ rfl).elim
    | array l e => exact (h2 _ _ rfl).elim
    | _ => rfl
  · cases h

theorem laidAs_some {t : TypeId} {n : Nat} (h : laidAs P t = some (some n)) : (isAgg t).run P w = .ok true w ∧ sizeAt P t = some n := by
  unfold laidAs at h
  split at h
  · rename_i fs n' hd hs
    cases h
    have := run_underlying (w := w) hd
    exact ⟨by simp [isAgg, this], hs⟩
  · rename_i l e n' hd hs
    cases h
    have := run_underlying (w := w) hd
    exact ⟨by simp [isAgg, this], hs⟩
  · cases h
  · cases h

/-- A load, of one cell or of an aggregate. -/
theorem run_loadAt (r : Rel μ σ w) {t : TypeId} {n : Option Nat} (hn : laidAs P t = some n) {av : AVal} {v : Value} (hv : VRel μ av v) {a : AVal} (ha : loadAt σ n av = some a) :
    ∃ x, (Instr.loadAt t v).run P w = .ok x w ∧ VRel μ a x := by
  unfold loadAt at ha
  split at ha
  · rename_i b o
    obtain ⟨m, hm, rfl⟩ := hv.ptr
    split at ha
    · obtain ⟨x, hx, hr, _⟩ := r.load1 ha hm
      exact ⟨x, by simp [Instr.loadAt, Instr.sureAddr, loadVar, laidAs_none hn, hx], hr⟩
    · rename_i k
      split at ha
      · rename_i cs hcs
        cases ha
        obtain ⟨vs, hvl, hcl, hcell, hr, _⟩ := r.loadN hcs hm
        obtain ⟨h1, h2⟩ := laidAs_some (w := w) hn
        have hload := run_loadCells_list (P := P) w ⟨m.p, m.o + o, none⟩ vs hcell
        rw [hvl, hcl] at hload
        refine ⟨.agg vs.toArray, ?_, ?_⟩
        · simp [Instr.loadAt, Instr.sureAddr, loadVar, h1, run_sizeOf' h2, hload]
        · simp only [VRel]
          exact ⟨_, rfl, by simpa using hr⟩
      · cases ha
  · cases ha

theorem good_load (r : Rel μ σ w) (h : HOpd P μ ts ρ) {t : TypeId} {n : Option Nat} (hn : laidAs P t = some n) {x : Operand} {y : Opd} (hc : compOpd P x = some y) :
    Good μ σ w (oLoad n y ts σ) ((do pure (Next.value (← Instr.loadAt t (ρ x))) : Sem Next).run P w) := by
  unfold oLoad
  refine Good.of r fun a ha => ?_
  obtain ⟨v, hv, hr⟩ := run_loadAt r hn (h _ _ hc) ha
  exact ⟨v, by simp [hv], hr⟩

theorem good_store (r : Rel μ σ w) (h : HOpd P μ ts ρ) {t : TypeId} {n : Nat} (hn : sizeAt P t = some n) {a x : Operand} {a' x' : Opd} (ha : compOpd P a = some a') (hx : compOpd P x = some x') :
    Good μ σ w (oStore n a' x' ts σ) ((do Instr.storeAt t (ρ a) (ρ x); pure Next.skip : Sem Next).run P w) := by
  have hra := h _ _ ha
  have hrx := (h _ _ hx).cells
  unfold oStore
  split
  · rename_i b o e
    rw [e] at hra
    obtain ⟨m, hm, hp⟩ := hra.ptr
    rw [hp]
    cases hl : Nat.beq (len (x'.ev ts).cells) n with
    | false => trivial
    | true =>
      have hl' := Nat.eq_of_beq_eq_true hl
      rw [len_eq] at hl'
      cases hs : σ.storeN b o (x'.ev ts).cells with
      | none => trivial
      | some σ' =>
        obtain ⟨w', hrun, hrel, hext⟩ := r.storeN P hs hm hrx
        have hsz : (ρ x).cells.size = n := by have := hrx.length; simp at this; omega
        refine ⟨μ, w', Go.undef, .inr ⟨?_, rfl⟩, hrel, hext, VRel.undef μ⟩
        simp [Instr.storeAt, Instr.sureAddr, storeVar, run_sizeOf' hn, hsz, hrun]
  · trivial

theorem good_nilCheck (r : Rel μ σ w) (h : HOpd P μ ts ρ) {x : Operand} {y : Opd} (hc : compOpd P x = some y) {o : Oper} (ho : o.op = .nilCheck x) :
    Good μ σ w (oNilCheck y ts σ) ((execOp ρ o).run P w) := by
  have hr := h _ _ hc
  unfold oNilCheck
  split
  · trivial
  · trivial
  · trivial
  · rename_i h1 h2 h3
    refine Good.val r (x := ρ x) ?_ hr
    unfold execOp
    rw [ho]
    simp only []
    cases hy : y.ev ts with
    | ptr a =>
      cases a with
      | none => exact absurd hy h1
      | some q =>
        obtain ⟨b, o'⟩ := q
        rw [hy] at hr
        obtain ⟨m, _, hp⟩ := hr.ptr
        rw [hp]
        rfl
    | nilIface => exact absurd hy h2
    | nilFunc => exact absurd hy h3
    | func f cs =>
      rw [hy] at hr
      simp only [VRel] at hr
      obtain ⟨vs, hp, _⟩ := hr
      rw [hp]
      rfl
    | slice a l c e z =>
      rw [hy] at hr
      cases a with
      | none => simp only [VRel] at hr; obtain ⟨_, _, hp⟩ := hr; rw [hp]; rfl
      | some q => obtain ⟨b, o'⟩ := q; simp only [VRel] at hr; obtain ⟨q, cap', hp, _⟩ := hr; rw [hp]; rfl
    | map a =>
      rw [hy] at hr
      cases a with
      | none => simp only [VRel] at hr; rw [hr]; rfl
      | some q => simp only [VRel] at hr; obtain ⟨m, _, hp⟩ := hr; rw [hp]; rfl
    | bool _ | int _ _ | str _ => rw [hy] at hr; simp only [VRel] at hr; rw [hr]; rfl
    | iface _ _ | agg _ | tuple _ => rw [hy] at hr; simp only [VRel] at hr; obtain ⟨_, hp, _⟩ := hr; rw [hp]; rfl

end
end Go.Ab
